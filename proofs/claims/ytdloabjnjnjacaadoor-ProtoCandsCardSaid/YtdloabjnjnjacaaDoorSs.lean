/-
  slices.SortFunc with feats.Order at a list of sounds that the call owns; at none.
-/
import Derived.Test.YtdloabjnjnjacaaDoorSq
import Derived.Test.YtdloabjnjnjacaaDoorSortS
namespace Go.Proofs.YtdloabjnjnjacaaDoor
open Go.RowKit Go.Shelf Go.Sort Go.Lib
theorem order_anyD (s t : Snd) (w : World) :
    Calls Tryd.prog 69 #[.agg #[.int .u32 s.p.toNat, .int .u32 s.m.toNat], .agg #[.int .u32 t.p.toNat, .int .u32 t.m.toNat]] w fun e w' => e = .returned (.int .i64 (cmpS s t)) ∧ ExtD w w' := by
  go_enter Tryd.func69, Tryd.ntmps69
  go_wp2_with fail
  have f0 := fun x : ExtDOf ((w.alloc (.cells #[.int .u32 s.p.toNat, .int .u32 s.m.toNat] 38)).alloc (.cells #[.int .u32 t.p.toNat, .int .u32 t.m.toNat] 38)) => x.cell (b := w.heap.size) (o := 0) (v := .int .u32 s.p.toNat) (by go_simp)
  have f1 := fun x : ExtDOf ((w.alloc (.cells #[.int .u32 s.p.toNat, .int .u32 s.m.toNat] 38)).alloc (.cells #[.int .u32 t.p.toNat, .int .u32 t.m.toNat] 38)) => x.cell (b := w.heap.size) (o := 1) (v := .int .u32 s.m.toNat) (by go_simp)
  have f2 := fun x : ExtDOf ((w.alloc (.cells #[.int .u32 s.p.toNat, .int .u32 s.m.toNat] 38)).alloc (.cells #[.int .u32 t.p.toNat, .int .u32 t.m.toNat] 38)) => x.cell (b := w.heap.size + 1) (o := 0) (v := .int .u32 t.p.toNat) (by go_simp)
  have f3 := fun x : ExtDOf ((w.alloc (.cells #[.int .u32 s.p.toNat, .int .u32 s.m.toNat] 38)).alloc (.cells #[.int .u32 t.p.toNat, .int .u32 t.m.toNat] 38)) => x.cell (b := w.heap.size + 1) (o := 1) (v := .int .u32 t.m.toNat) (by go_simp)
  refine wp_region_qxtD 10 (by kernel_rfl) (by kernel_rfl) ?_
  simp only [List.take_succ_cons, List.take_zero, List.drop_succ_cons, List.drop_zero]
  repeat (go_big_quiet_step ((go_at_call 98; exact calls_extD_same (cmp_any _ _ _))))
  refine wpQuiet_nil ?_
  intro wq hw'
  have hxq := extD_of_ex hw'
  clear hw'
  go_wp2_with (go_at_call 97; refine (or_any (cmpI s.p.toNat t.p.toNat) (cmpI s.m.toNat t.m.toNat) _ _ _ (by go_simp) (by go_simp)).mono ?_; rintro e w' ⟨rfl, rfl⟩)
  go_ret
  exact ⟨rfl, (((ExtD.refl w).alloc _).alloc _ |>.trans hxq).alloc _⟩
theorem swo_tot {α : Type} {cf : α → α → Int} (T : Tot cf) : SWO (ltOf cf) where
  irrefl x := by simp [ltOf, T.self]
  trans x y z h1 h2 := by
    simp only [ltOf, decide_eq_true_eq] at *
    exact T.trans h1 h2
  ntrans x y z h1 h2 := by
    simp only [ltOf, decide_eq_false_iff_not] at *
    have h3 := T.anti x y
    have h4 := T.anti y z
    intro h5
    by_cases h6 : cf y z = 0
    · rw [T.zero h6] at h1; exact h1 h5
    · have h7 : cf z y < 0 := by rcases T.tri y z with h | h | h <;> omega
      have := T.trans h5 h7
      exact h1 this
instance : Inhabited Snd := ⟨⟨0, 0⟩⟩
theorem isAgg_snd (w : World) : (isAgg (Tryd.sortS_ren.t 24)).run Tryd.prog w = .ok true w := by kernel_rfl
theorem sizeOf_snd (w : World) : (Go.sizeOf (Tryd.sortS_ren.t 24)).run Tryd.prog w = .ok 2 w := by kernel_rfl
theorem sortS_any {w w0 : World} {e g n cap : Nat} {hs : List Snd} (hx : Ext w w0) (hown : OwnS w.heap.size e w0 (.slice (some ⟨g, 0, none⟩) n cap) hs) (hn : n ≤ 60000000) :
    Calls Tryd.prog 68 #[.slice (some ⟨g, 0, none⟩) n cap, .func (.func 69) #[] #[]] w0 fun en w' => en = .returned (.tuple #[]) ∧ Ext w w' ∧
      ∃ ts : List Snd, ts.Perm hs ∧ ts.Pairwise (fun x y => ¬ cmpS y x < 0) ∧ OwnS w.heap.size e w' (.slice (some ⟨g, 0, none⟩) n cap) ts :=
  sortK_any (k := 2) (enc := Snd.enc) Tryd.sortS Snd.len Snd.one isAgg_snd sizeOf_snd cmpS (swo_tot cmpS_tot) 69 #[] (enters_of Tryd.func69 (by kernel_rfl) rfl)
    (fun W x y _ => order_anyD x y W) hx hown hn
theorem sortS_none (p : Option Addr) (cap : Nat) (fv : Value) (w : World) :
    Calls Tryd.prog 68 #[.slice p 0 cap, fv] w fun e w' => e = .returned (.tuple #[]) ∧ w' = w := AnyF.slices_SortFunc_none Tryd.sortS p cap fv w
end Go.Proofs.YtdloabjnjnjacaaDoor
