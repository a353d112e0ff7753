/-
  The leaves of corr.sum: a count too great, Clone at cells, SortFunc at correspondences.
-/
import Derived.Test.YtjfhfbobnncpkaaDoorKp
import Derived.Test.YtjfhfbobnncpkaaDoorKa2
import Derived.Test.YtjfhfbobnncpkaaDoorSr
import Derived.Test.YtjfhfbobnncpkaaDoorSortC
namespace Go.Proofs.YtjfhfbobnncpkaaDoor
open Go.RowKit Go.Shelf Go.Sort Go.Lib
def RetC (xs : List Cl) (w : World) (e : Ending) (w' : World) : Prop := ∃ v, e = .returned v ∧ OwnC w.heap.size 50 w' v xs ∧ Ext w w'
/-- A count that is too great. -/
def overB (y : HCo) : Bool := decide (2147483647 < y.cnt)
theorem over1_any (y : HCo) (w : World) : Calls Tryd.prog 37 #[coV y] w fun e w' => e = .returned (.bool (overB y)) ∧ Ext w w' := by
  go_enter Tryd.func37, Tryd.ntmps37
  go_wp2
  go_ret
  exact ⟨ret_bool rfl, Ext.alloc1 _ _⟩
theorem indexO_any (a : Option Addr) (n cap : Nat) (xs : List HCo) (w : World) (hr : RdH w a n cap xs) :
    Calls Tryd.prog 41 #[.slice a n cap, .func (.func 37) #[] #[]] w fun e w' => ∃ r : Int, e = .returned (.int .i64 r) ∧ decide (0 ≤ r) = xs.any overB ∧ Ext w w' := by
  have hl := hr.rd.len
  have hmax : n ≤ 9223372036854775807 := by have := hr.rd.le; have := hr.rd.most; unfold maxLen at this; omega
  replace hl := Lib.hid hl
  go_enter Tryd.func41, Tryd.ntmps41
  go_wp2_with fail
  go_loopw [8] (fun i wr => ∃ k : Nat, k ≤ n ∧ i = .int .i64 k ∧ Ext w wr ∧ Hid (∀ (i : Nat) (y : _), i < k → xs[i]? = some y → (!(overB) y) = true)) (fun i _ => n - (intOf i).toNat)
  case atStart => exact ⟨0, Nat.zero_le _, rfl, Ext.refl _, fun i x hi => absurd hi (Nat.not_lt_zero _)⟩
  case round =>
    obtain ⟨k, hk, rfl, hx, hall⟩ := hrel
    by_cases hlt : k < n
    · obtain ⟨b, off, y, rfl, hs, hb, hc0, hc1, _⟩ := (hr.ext hx).at hlt
      cases hp : (overB) y
      · have hnew := Lib.hid (all_succ (p := fun y => !(overB) y) hall.out hs.out (by show (!(overB) y) = true; rw [hp]; rfl))
        go_wp2_with fail
        refine (cbool (over1_any y _) hp).mono ?_
        rintro e w1 ⟨rfl, hx1⟩
        clear hp
        go_wp2_with fail
        (first | exact ⟨⟨k + 1, by omega, by go_num, hx.trans hx1, hnew⟩, (by simp [intOf]; omega)⟩ | (go_roundw; case rel => exact ⟨k + 1, by omega, by go_num, hx.trans hx1, hnew⟩; case measure => exact (by simp [intOf]; omega)))
      · have hany := Lib.hid (any_of_at (p := overB) hs.out hp)
        go_wp2_with fail
        refine (cbool (over1_any y _) hp).mono ?_
        rintro e w1 ⟨rfl, hx1⟩
        clear hp
        go_wp2_with fail
        go_ret
        exact ⟨(k : Int), rfl, by rw [hany.out]; simp, hx.trans hx1⟩
    · go_wp2_with fail
      go_ret
      exact ⟨-1, rfl, by rw [any_none (p := overB) hl.out (fun i y hi => hall.out i y (by omega))]; simp, hx⟩
theorem containsO_any (a : Option Addr) (n cap : Nat) (xs : List HCo) (w : World) (hr : RdH w a n cap xs) :
    Calls Tryd.prog 24 #[.slice a n cap, .func (.func 37) #[] #[]] w fun e w' => e = .returned (.bool (xs.any overB)) ∧ Ext w w' := by
  go_enter Tryd.func24, Tryd.ntmps24
  go_wp2_with fail
  refine (indexO_any a n cap xs _ hr).mono ?_
  rintro e w1 ⟨r, rfl, hd, hx1⟩
  replace hd := Lib.hid hd
  go_wp2_with fail
  go_ret
  exact ⟨ret_bool hd.out, hx1⟩
/-! ### Clone -/
theorem cloneC_any (a : Option Addr) (n cap : Nat) (xs : List Cl) (w : World) (hr : RdC w a n cap xs) (hn : n ≤ 60000) :
    Calls Tryd.prog 36 #[.slice a n cap] w (RetC xs w) := by
  cases a with
  | none =>
    have hc := hr.isnil rfl
    have h0 : n = 0 := by have := hr.le; omega
    subst h0; subst hc
    have hx : xs = [] := List.eq_nil_of_length_eq_zero hr.len
    subst hx
    have he := fun w => Lib.run_eql_slice_nil (P := Tryd.prog) w 43 50 Option.none 0 0 0 0 Tryd.underlying43
    go_enter Tryd.func36, Tryd.ntmps36
    go_wp2_with fail
    go_ret
    exact ⟨_, rfl, OwnK.nil _ _ _, Ext.refl _⟩
  | some ad =>
    have he := fun w => Lib.run_eql_slice_nil (P := Tryd.prog) w 43 50 (some ad) n cap 0 0 Tryd.underlying43
    have h0 : OwnC w.heap.size 50 (w.alloc (.cells #[] 50)) (.slice (some ⟨w.heap.size, 0, Option.none⟩) 0 0) [] := OwnK.base (World.ownsRow_lit w #[] 0 (Nat.le_refl _) (Nat.zero_le _) rfl) (Nat.le_refl _)
    go_enter Tryd.func36, Tryd.ntmps36
    go_wp2_with (at_builtin; refine wp_appN w _ xs rfl _ _ 43 rfl 50 Tryd.underlying43 info_cl rfl (by decide) _ _ rfl h0 (Ext.alloc1 _ _) (some ad) n cap rfl (hr.ext (Ext.alloc1 _ _)) Cl.len Cl.one (by simp; omega) (by unfold maxLen; simp; omega) ?_; intro v' w1 hown1 hx1 _)
    go_ret
    exact ⟨_, rfl, hown1, hx1⟩
/-! ### The order of correspondences -/
theorem sum2_any (x y : HCo) (w : World) (hr : RdC w x.a x.n x.cap x.x) (hs : RdC w y.a y.n y.cap y.x) :
    Calls Tryd.prog 39 #[coV x, coV y] w fun e w' => e = .returned (.int .i64 (cmpCs x.x y.x)) ∧ ExtD w w' := by
  go_enter Tryd.func39, Tryd.ntmps39
  go_wp2_with fail
  refine (cord_anyD _ _ _ _ _ _ _ _ _ (hr.ext (by repeat (first | exact Ext.refl _ | assumption | refine Ext.drew ?_ | refine Ext.drewN ?_ _ | refine Ext.alloc ?_ _ | refine Ext.trans ?_ (by assumption)))) (hs.ext (by repeat (first | exact Ext.refl _ | assumption | refine Ext.drew ?_ | refine Ext.drewN ?_ _ | refine Ext.alloc ?_ _ | refine Ext.trans ?_ (by assumption))))).mono ?_
  rintro e w1 ⟨rfl, hx1⟩
  go_wp2_with fail
  go_ret
  exact ⟨rfl, ExtD.trans (by repeat (first | exact ExtD.refl _ | assumption | refine ExtD.drew ?_ | refine ExtD.drewN ?_ _ | refine ExtD.alloc ?_ _ | refine ExtD.trans ?_ (by assumption))) hx1⟩
/-- A list of correspondences that the call owns, each with cells that the call owns. -/
structure OwnLC (B : Nat) (w : World) (v : Value) (hs : List HCo) : Prop where
  own : OwnK 2 HCo.enc B 45 w v hs
  ok : ∀ y ∈ hs, OwnC B 50 w (.slice y.a y.n y.cap) y.x
theorem OwnLC.to {B : Nat} {w : World} {v : Value} {hs : List HCo} (h : OwnLC B w v hs) : OwnL B w v hs := ⟨h.own, fun y hy => OwnK.rdv Cl.len (h.ok y hy)⟩
abbrev HC (B : Nat) (w : World) : Type := {h : HCo // OwnC B 50 w (.slice h.a h.n h.cap) h.x}
theorem isAgg_corr (w : World) : (isAgg (Tryd.sortC_ren.t 24)).run Tryd.prog w = .ok true w := by kernel_rfl
theorem sizeOf_corr (w : World) : (Go.sizeOf (Tryd.sortC_ren.t 24)).run Tryd.prog w = .ok 2 w := by kernel_rfl
theorem flat_sub {B : Nat} {w : World} (l : List (HC B w)) : l.flatMap (fun h => HCo.enc h.1) = (l.map Subtype.val).flatMap HCo.enc := by
  induction l with
  | nil => rfl
  | cons a l ih => rw [List.flatMap_cons, ih, List.map_cons, List.flatMap_cons]
instance (B : Nat) (w : World) : Inhabited (HC B w) := ⟨⟨⟨none, 0, 0, 0, []⟩, OwnK.nil _ _ _⟩⟩
theorem sortC_any {w w0 : World} {g n cap : Nat} {hs : List HCo} (hx : Ext w w0) (hown : OwnLC w.heap.size w0 (.slice (some ⟨g, 0, none⟩) n cap) hs) (hn : n ≤ 60000000) :
    Calls Tryd.prog 38 #[.slice (some ⟨g, 0, none⟩) n cap, .func (.func 39) #[] #[]] w0 fun en w' => en = .returned (.tuple #[]) ∧ Ext w w' ∧ Off g w0 w' ∧
      ∃ ts : List HCo, ts.Perm hs ∧ ts.Pairwise (fun x y => ¬ cmpCs y.x x.x < 0) ∧ OwnLC w.heap.size w' (.slice (some ⟨g, 0, none⟩) n cap) ts := by
  obtain ⟨ho, hok⟩ := hown
  obtain ⟨hs', hval⟩ : ∃ hs' : List (HC w.heap.size w0), hs'.map Subtype.val = hs := ⟨hs.attach.map fun x => ⟨x.1, hok x.1 x.2⟩, by simp⟩
  have hlen : hs'.length = hs.length := by rw [← hval, List.length_map]
  have hoe : ∀ {W : World} {l : List (HC w.heap.size w0)}, OwnK 2 (fun h : HC w.heap.size w0 => HCo.enc h.1) w.heap.size 45 W (.slice (some ⟨g, 0, none⟩) n cap) l ↔ OwnK 2 HCo.enc w.heap.size 45 W (.slice (some ⟨g, 0, none⟩) n cap) (l.map Subtype.val) := by
    intro W l; unfold OwnK; rw [flat_sub, List.length_map]
  have hne : ∀ y : HC w.heap.size w0, (Value.slice y.1.a y.1.n y.1.cap).ownBlock ≠ some g := fun y e1 => by
    obtain ⟨c1, h1⟩ := OwnK.blk y.2 e1
    obtain ⟨c2, h2⟩ := OwnK.blk ho (g := g) rfl
    rw [h1] at h2
    cases h2
  have ho' := hoe.2 (hval ▸ ho)
  refine (sortKO_any (k := 2) (enc := fun h : HC w.heap.size w0 => HCo.enc h.1) Tryd.sortC (fun x => HCo.len x.1) (fun x => HCo.one x.1) isAgg_corr sizeOf_corr (fun x y => cmpCs x.1.x y.1.x) (swo_pre cmpCs_tot fun x : HC w.heap.size w0 => x.1.x) 39 #[] (enters_of Tryd.func39 (by kernel_rfl) rfl)
    (fun W x y _ hO => sum2_any x.1 y.1 W (OwnK.rdv Cl.len (x.2.off hO (hne x))) (OwnK.rdv Cl.len (y.2.off hO (hne y)))) hx ho' hn).mono ?_
  rintro en w' ⟨rfl, hx', hO, ts, hp, hso, hot⟩
  refine ⟨rfl, hx', hO, ts.map Subtype.val, hval ▸ hp.map _, ?_, hoe.1 hot, fun y hy => ?_⟩
  · rw [List.pairwise_map]; exact hso
  · obtain ⟨z, _, rfl⟩ := List.mem_map.1 hy
    exact z.2.off hO (hne z)
theorem sortC_none (p : Option Addr) (cap : Nat) (fv : Value) (w : World) :
    Calls Tryd.prog 38 #[.slice p 0 cap, fv] w fun e w' => e = .returned (.tuple #[]) ∧ w' = w := AnyF.slices_SortFunc_none Tryd.sortC p cap fv w
end Go.Proofs.YtjfhfbobnncpkaaDoor
