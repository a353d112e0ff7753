/-
  The laws CorrCells, CorrRows: the walks.
-/
import Derived.Test.YtkdancoffmhjhaaEg
import Derived.Test.YtkdancoffmhjhaaLm
namespace Go.Proofs.Ytkdancoffmhjhaa
open Go.RowKit Go.Shelf
set_option maxHeartbeats 2000000 in
theorem corrCells_any (g : ByteArray) (a : Option Addr) (n cap : Nat) (fs : List HF) (b : Option Addr) (m cap2 : Nat) (cs : List HI) (w : World) (hr : RdF w a n cap fs) (hs : RdN2 w b m cap2 cs) :
    Calls Try.prog 13 #[.agg #[.string g, .slice a n cap], .slice b m cap2] w fun e w' => e = .returned (.bool true) ∧ Ext w w' := by
  have hmax : n ≤ 9223372036854775807 := by have := hr.rd.le; have := hr.rd.most; unfold maxLen at this; omega
  have q0 : (w.alloc (.cells #[.string g, .slice a n cap] 60)).cell? ⟨w.heap.size, 0, none⟩ = some (.string g) := by go_simp
  have q1 : (w.alloc (.cells #[.string g, .slice a n cap] 60)).cell? ⟨w.heap.size, 1, none⟩ = some (.slice a n cap) := by go_simp
  have hxB : Ext w (w.alloc (.cells #[.string g, .slice a n cap] 60)) := (by repeat (first | exact Ext.refl _ | refine Ext.drew ?_ | refine Ext.drewN ?_ _ | refine Ext.alloc ?_ _))
  by_cases h70 : n ≤ 70
  · have d70 : decide ((70 : Int) < (n : Int)) = false := by simp; omega
    have hA := fun W (z : Ext w W) => cells_any g a n cap fs b m cap2 cs W (hr.ext z) (hs.ext z)
    have hB := fun W (z : Ext w W) => rcells_any g a n cap fs b m cap2 cs W (hr.ext z) (hs.ext z)
    unfold CellsRet at hA hB
    generalize cellsE fs cs = E at *
    generalize cellsL fs cs = L at *
    have hw0 : (E != E) = false := by simp
    go_enter Try.func13, Try.ntmps13
    go_wp2_with fail
    generalize (w.alloc (.cells #[.string g, .slice a n cap] 60)) = wB at *
    refine (hA _ hxB).mono ?_
    rintro e w1 ⟨v1, hs1, rfl, ho1, hk1, hx1⟩
    obtain ⟨a1, n1, c1, hn1, rfl, hr1⟩ := OwnK.rdn HW.len ho1.own
    have hR1 : RdHW w1 a1 n1 c1 hs1 := ⟨hr1, fun h hh => OwnK.rdv Cl.len (ho1.ok h hh)⟩
    have hB1 := hB _ (hxB.trans hx1)
    have s0 := hx1.cellv q0
    have s1 := hx1.cellv q1
    have hl0 := cell_lt s0
    simp only at hl0
    clear hA hB ho1 hr1 q0 q1
    replace hn1 := Lib.hid hn1
    replace hk1 := Lib.hid hk1
    go_wp2_with fail
    refine hB1.mono ?_
    rintro e w2 ⟨v2, hs2, rfl, ho2, hk2, hx2⟩
    obtain ⟨a2, n2, c2, hn2, rfl, hr2⟩ := OwnK.rdn HW.len ho2.own
    have hR2 : RdHW w2 a2 n2 c2 hs2 := ⟨hr2, fun h hh => OwnK.rdv Cl.len (ho2.ok h hh)⟩
    have hR1 := hR1.ext hx2
    have hxw2 := (hxB.trans hx1).trans hx2
    have hlen : hs1.length = hs2.length := by
      have h1 := congrArg List.length hk1.out
      have h2 := congrArg List.length hk2
      rw [List.length_map] at h1 h2; omega
    have hnn : n2 = n1 := by rw [hn1.out, hn2, hlen]
    have hmax1 : n1 ≤ 9223372036854775807 := by have := hR1.rd.le; have := hR1.rd.most; unfold maxLen at this; omega
    subst hnn
    have heq : ∀ (i : Nat) (y z : HW), hs1[i]? = some y → hs2[i]? = some z → y.x = z.x := fun i y z hy hz => by
      have h1 : (hs1.map HW.x)[i]? = some y.x := by rw [List.getElem?_map, hy]; rfl
      have h2 : (hs2.map HW.x)[i]? = some z.x := by rw [List.getElem?_map, hz]; rfl
      rw [hk1.out] at h1
      rw [hk2] at h2
      exact Option.some.inj (h1.symm.trans h2)
    replace heq := Lib.hid heq
    replace hn2 := Lib.hid hn2
    replace hk2 := Lib.hid hk2
    replace hlen := Lib.hid hlen
    clear hB1 ho2 hr2 s0 s1
    go_wp2_with fail
    go_loopw [9] (fun i wr => ∃ k : Nat, k ≤ n2 ∧ i = .int .i64 k ∧ Ext w2 wr) (fun i _ => n2 - (intOf i).toNat)
    case atStart => exact ⟨0, Nat.zero_le _, rfl, Ext.refl _⟩
    case round =>
      obtain ⟨k, hk, rfl, hxr⟩ := hrel
      by_cases hlt : k < n2
      · have hki : (k : Int) < (n2 : Int) := by omega
        obtain ⟨b1, o1, ⟨ya, yn, yc, yx⟩, rfl, hy, hb1, p0, py⟩ := (hR1.ext hxr).at hlt
        obtain ⟨b2, o2, ⟨za, zn, zc, zx⟩, rfl, hz, hb2, p1, pz⟩ := (hR2.ext hxr).at hlt
        simp only at p0 p1 py pz
        have hyz : yx = zx := heq.out k _ _ hy.out hz.out
        subst hyz
        have hcall := fun u : ExtOf wr => lequal_any ya yn yc yx za zn zc yx u.w (py.ext u.h) (pz.ext u.h)
        rw [decide_eq_true (rfl : yx = yx)] at hcall
        have r0 := fun u : ExtOf wr => u.cell p0
        have r1 := fun u : ExtOf wr => u.cell p1
        go_wp2_with fail
        refine wp_region_qx (by kernel_rfl) (by kernel_rfl) ?_
        repeat (go_big_quiet_step (exact calls_ext (hcall _)))
        refine wpQuiet_nil ?_
        intro wq hw'
        have hxq := ext_of_ex hw'
        clear hw' r0 r1 hcall
        go_wp2_with fail
        (first | exact ⟨⟨k + 1, by omega, by go_num, hxr.trans hxq⟩, (by simp [intOf]; omega)⟩ | (go_roundw; case rel => exact ⟨k + 1, by omega, by go_num, hxr.trans hxq⟩; case measure => exact (by simp [intOf]; omega)))
      · have hxw := hxw2.trans hxr
        go_wp2_with fail
        refine (works_any _).mono ?_
        rintro e wz ⟨rfl, hxz⟩
        go_wp2_with fail
        go_ret
        exact ⟨rfl, (by repeat (first | exact Ext.refl _ | assumption | refine Ext.drew ?_ | refine Ext.drewN ?_ _ | refine Ext.alloc ?_ _ | refine Ext.trans ?_ (by assumption)))⟩
  · have d70 : decide ((70 : Int) < (n : Int)) = true := by simp; omega
    go_enter Try.func13, Try.ntmps13
    go_wp2_with fail
    refine (works_any _).mono ?_
    rintro e wz ⟨rfl, hxz⟩
    go_wp2_with fail
    go_ret
    exact ⟨rfl, (by repeat (first | exact Ext.refl _ | assumption | refine Ext.drew ?_ | refine Ext.drewN ?_ _ | refine Ext.alloc ?_ _ | refine Ext.trans ?_ (by assumption)))⟩
/-! ### CorrRows -/
/-- What the law sees in a column. -/
theorem row_at {fs : List HF} {cs : List HI} {i k : Nat} {f : HF} {c : HI} (hx : ∀ y ∈ wordsOf fs, y.x.length = y.n) (hE : chkM (wordsOf fs) cs = 0) (hf : fs[i]? = some f) (hc : cs[k]? = some c) :
    (rowF fs (rowM (wordsOf fs) c.x)).length = fs.length ∧
    (f.has = false → (rowF fs (rowM (wordsOf fs) c.x))[i]? = some noC) ∧
    (f.has = true → (c.x.getD (rk fs i) (-1) = -1 ∧ (rowF fs (rowM (wordsOf fs) c.x))[i]? = some ⟨1, ⟨0#32, 0#32⟩⟩) ∨
      (c.x.getD (rk fs i) (-1) ≠ -1 ∧ cntG ((cs.map HI.x).take k) (rk fs i) < f.n ∧ ∃ s, f.x[cntG ((cs.map HI.x).take k) (rk fs i)]? = some s ∧ (rowF fs (rowM (wordsOf fs) c.x))[i]? = some ⟨2, s⟩)) := by
  refine ⟨rowF_len _ _, fun hh => ?_, fun hh => ?_⟩
  · rw [rowF_at, hf, Option.map_some, if_neg (by rw [hh]; simp)]
  · obtain ⟨hal, _⟩ := chkM_zero hx hE
    have hw := wordsOf_at hf hh
    have hcx : (cs.map HI.x)[k]? = some c.x := by rw [List.getElem?_map, hc]; rfl
    obtain ⟨h1, h2⟩ := al_at hal hcx hw
    have hlt := rk_lt hf hh
    have hxx : c.x[rk fs i]? = some (c.x.getD (rk fs i) (-1)) := by
      rw [List.getD_eq_getElem?_getD, List.getElem?_eq_getElem (by omega)]; rfl
    have hrow : (rowF fs (rowM (wordsOf fs) c.x))[i]? = some (cellOf f.x (c.x.getD (rk fs i) (-1))) := by
      rw [rowF_at, hf, Option.map_some, if_pos hh, List.getD_eq_getElem?_getD]
      unfold rowM
      rw [List.getElem?_map, (List.getElem?_zip_eq_some (z := (f.hs, c.x.getD (rk fs i) (-1)))).2 ⟨hw, hxx⟩]; rfl
    rw [hrow]
    by_cases e : c.x.getD (rk fs i) (-1) = -1
    · refine .inl ⟨e, ?_⟩
      rw [e]; rfl
    · obtain ⟨h3, h4⟩ := h2.resolve_left e
      refine .inr ⟨e, h4, ?_⟩
      have hfl : f.x.length = f.n := hx f.hs (List.mem_of_getElem? hw)
      have h5 : cntG ((cs.map HI.x).take k) (rk fs i) < f.x.length := by rw [hfl]; exact h4
      refine ⟨_, List.getElem?_eq_getElem h5, ?_⟩
      unfold cellOf
      rw [if_neg e, h3, Int.toNat_natCast, List.getD_eq_getElem?_getD, List.getElem?_eq_getElem h5]; rfl
theorem row_end {fs : List HF} {cs : List HI} {i : Nat} {f : HF} (hx : ∀ y ∈ wordsOf fs, y.x.length = y.n) (hE : chkM (wordsOf fs) cs = 0) (hf : fs[i]? = some f) (hh : f.has = true) : cntG (cs.map HI.x) (rk fs i) = f.n := by
  obtain ⟨hal, _⟩ := chkM_zero hx hE
  exact hal.2 (rk fs i) f.n (by rw [List.getElem?_map, wordsOf_at hf hh]; rfl)
/-- How far a form has been read. -/
def atOf (fs : List HF) (C : List (List Int)) (f : HF) (i k : Nat) : Nat := if f.has = true then cntG (C.take k) (rk fs i) else 0
end Go.Proofs.Ytkdancoffmhjhaa
