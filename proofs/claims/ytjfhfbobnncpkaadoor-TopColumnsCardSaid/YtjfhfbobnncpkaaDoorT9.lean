/-
  What the sum of the columns' correspondences comes to, plain.
  ablauttop: the example of layer 20.
  The law TopColumns: what is read, what stands in the rounds, plain.
-/
import Derived.Test.YtjfhfbobnncpkaaDoorT8
import Derived.Test.YtjfhfbobnncpkaaDoorKc2
namespace Go.Proofs.YtjfhfbobnncpkaaDoor
open Go.RowKit
/-- What those with P count. -/
def sumP (P : List Cl → Bool) : List (List Cl × Int) → Int
  | [] => 0
  | x :: L => (if P x.1 = true then x.2 else 0) + sumP P L
theorem sumP_app (P : List Cl → Bool) : ∀ (L M : List (List Cl × Int)), sumP P (L ++ M) = sumP P L + sumP P M
  | [], M => by simp [sumP]
  | x :: L, M => by simp only [List.cons_append, sumP, sumP_app P L M]; omega
theorem sumP_add (P : List Cl → Bool) : ∀ (L : List (List Cl × Int)) (x : List Cl × Int), sumP P (addK cmpCs L x) = sumP P L + if P x.1 = true then x.2 else 0
  | [], x => by simp [addK, sumP]
  | y :: L, x => by
    rw [addK]
    split
    · simp only [sumP, sumP_add P L x]; omega
    · split
      · rename_i h
        have e := cmpCs_tot.zero h
        simp only [sumP]
        rw [e]
        split <;> omega
      · simp only [sumP]; omega
theorem sumP_fold (P : List Cl → Bool) : ∀ (l L : List (List Cl × Int)), sumP P (l.foldl (addK cmpCs) L) = sumP P L + sumP P l
  | [], L => by simp [sumP]
  | x :: l, L => by
    rw [List.foldl_cons, sumP_fold P l, sumP_add]
    simp only [sumP]; omega
theorem sumT_fold : ∀ (l pre L : List (List Cl × Int)), SumK cmpCs pre L → SumK cmpCs (pre ++ l) (l.foldl (addK cmpCs) L)
  | [], pre, L, h => by simpa using h
  | x :: l, pre, L, h => by
    have := sumT_fold l (pre ++ [x]) _ (h.add cmpCs_tot x)
    simpa using this
theorem sumT_is {l L : List (List Cl × Int)} (h : SumK cmpCs l L) : L = l.foldl (addK cmpCs) [] := h.uniq cmpCs_tot (by simpa using sumT_fold l [] [] SumK.nil)
theorem sumP_is {l L : List (List Cl × Int)} (h : SumK cmpCs l L) (P : List Cl → Bool) : sumP P L = sumP P l := by
  rw [sumT_is h, sumP_fold]; simp [sumP]
theorem addK_lenT : ∀ (L : List (List Cl × Int)) (x : List Cl × Int), (addK cmpCs L x).length ≤ L.length + 1
  | [], x => by simp [addK]
  | y :: L, x => by
    have := addK_lenT L x
    rw [addK]
    split
    · simp; omega
    · split
      · simp
      · simp
theorem sumT_len {l L : List (List Cl × Int)} (h : SumK cmpCs l L) : L.length ≤ l.length := by
  rw [sumT_is h]
  have hf : ∀ (l L : List (List Cl × Int)), (l.foldl (addK cmpCs) L).length ≤ L.length + l.length := fun l => by
    induction l with
    | nil => intro L; simp
    | cons x l ih =>
      intro L
      have h1 := ih (addK cmpCs L x)
      have h2 := addK_lenT L x
      simp only [List.foldl_cons, List.length_cons]; omega
  simpa using hf l []
def one1 (r : List Cl) : List Cl × Int := (r, 1)
theorem sumP_one (P : List Cl → Bool) : ∀ A : List (List Cl), sumP P (A.map one1) = ((A.filter P).length : Int)
  | [] => rfl
  | r :: A => by
    simp only [List.map_cons, sumP, sumP_one P A, one1]
    by_cases h : P r = true
    · rw [if_pos h, List.filter_cons_of_pos h, List.length_cons]; omega
    · rw [if_neg h, List.filter_cons_of_neg h]; omega
theorem sumC_P : ∀ hs : List HCo, sumC hs = sumP (fun _ => true) (hs.map kp)
  | [] => rfl
  | y :: hs => by simp only [sumC, List.map_cons, sumP, sumC_P hs]; rfl
/-- Has a row a sound in place k? -/
def sndB (k : Nat) (r : List Cl) : Bool := decide ((r.getD k noC).kind = 2)
/-- What the collected columns are. -/
theorem col_facts {A : List (List Cl)} {hs : List HCo} {N : Nat} (hN : N ≤ 64) (hA : A.length ≤ 4096) (hrow : ∀ r ∈ A, r.length = N ∧ r.all Cl.ok = true) {L : List (List Cl × Int)} (hL : SumK cmpCs (A.map one1) L) (hk : hs.map kp = L) (hn : ∀ y ∈ hs, y.x.length = y.n) :
    chkE [hs] = 0 ∧ sumC hs = (A.length : Int) ∧ (∀ y ∈ hs, y.n = N ∧ 1 ≤ y.cnt ∧ y.cnt ≤ 4096) ∧ ∀ k, sumP (sndB k) (hs.map kp) = (cntS A k : Int) := by
  have hbd := hL.bd (M := 1) (by omega) (fun x hx => by
    obtain ⟨r, _, rfl⟩ := List.mem_map.1 hx; exact ⟨by show (0 : Int) ≤ 1; decide, by show (1 : Int) ≤ 1; decide⟩)
  have hmem : ∀ y ∈ hs, y.x ∈ A := fun y hy => by
    have h1 : kp y ∈ L := by rw [← hk]; exact List.mem_map.2 ⟨y, hy, rfl⟩
    obtain ⟨_, z, hz, he⟩ := hL.2.1 _ h1
    obtain ⟨r, hr, rfl⟩ := List.mem_map.1 hz
    have : r = y.x := he
    rw [← this]; exact hr
  have hpos : ∀ y ∈ hs, 1 ≤ y.cnt := fun y hy => by
    have h1 : kp y ∈ L := by rw [← hk]; exact List.mem_map.2 ⟨y, hy, rfl⟩
    obtain ⟨h2, _⟩ := hL.2.1 _ h1
    have h3 : y.cnt = cntK (A.map one1) y.x := h2
    rw [h3]
    unfold cntK
    have h4 : one1 y.x ∈ (A.map one1).filter (fun x => decide (x.1 = y.x)) := List.mem_filter.2 ⟨List.mem_map.2 ⟨y.x, hmem y hy, rfl⟩, by simp [one1]⟩
    have h5 : ∀ M : List (List Cl × Int), (∀ x ∈ M, x.2 = 1) → (M.map (·.2)).sum = (M.length : Int) := fun M => by
      induction M with
      | nil => intro _; rfl
      | cons x M ih => intro h; rw [List.map_cons, List.sum_cons, ih (fun z hz => h z (List.mem_cons_of_mem _ hz)), h x List.mem_cons_self, List.length_cons]; omega
    rw [h5 _ (fun x hx => by obtain ⟨r, _, rfl⟩ := List.mem_map.1 (List.mem_filter.1 hx).1; rfl)]
    have := List.length_pos_of_mem h4
    omega
  have hle : ∀ y ∈ hs, y.cnt ≤ 4096 := fun y hy => by
    have h1 : kp y ∈ L := by rw [← hk]; exact List.mem_map.2 ⟨y, hy, rfl⟩
    have := (hbd _ h1).2
    rw [List.length_map] at this
    have h2 : (kp y).2 = y.cnt := rfl
    rw [h2] at this; omega
  have hlen : hs.length ≤ 4096 := by
    have h1 := sumT_len hL
    rw [← hk, List.length_map, List.length_map] at h1; omega
  have hnn : ∀ y ∈ hs, y.n = N := fun y hy => by rw [← hn y hy]; exact (hrow _ (hmem y hy)).1
  refine ⟨?_, ?_, fun y hy => ⟨hnn y hy, hpos y hy, hle y hy⟩, fun k => ?_⟩
  · unfold chkE
    rw [if_neg, if_pos]
    · rw [List.all_eq_true]
      intro y hy
      have hy' : y ∈ hs := by simpa using hy
      have hw : widH ([hs] : List (List HCo)).flatten = N := by
        cases hs with
        | nil => cases hy'
        | cons z t => exact hnn z List.mem_cons_self
      rw [hw]
      have h1 := hpos y hy'
      have h2 := hle y hy'
      have h3 := (hrow _ (hmem y hy')).2
      simp only [corB, cntB, Bool.and_eq_true, decide_eq_true_eq]
      exact ⟨hnn y hy', ⟨h1, by omega⟩, h3⟩
    · simp only [List.any_cons, List.any_nil, Bool.or_false, manyB, Bool.or_eq_true, decide_eq_true_eq, List.any_eq_true, not_or, not_exists, not_and]
      exact ⟨by omega, fun y hy => by rw [hnn y hy]; omega⟩
  · rw [sumC_P, hk, sumP_is hL, sumP_one]
    have : A.filter (fun _ => true) = A := List.filter_eq_self.2 (fun _ _ => rfl)
    rw [this]
  · rw [hk, sumP_is hL, sumP_one]; rfl
theorem col_chk {A : List (List Cl)} {gs : List HW} {N : Nat} (hN : N ≤ 64) (hA : A.length ≤ 4096) (hrow : ∀ r ∈ A, r.length = N ∧ r.all Cl.ok = true) (hg : gs.map HW.x = A) (hn : ∀ y ∈ gs, y.x.length = y.n) : chkE [gs.map HW.co1] = 0 := by
  have hm : ∀ y ∈ gs, y.x ∈ A := fun y hy => by rw [← hg]; exact List.mem_map.2 ⟨y, hy, rfl⟩
  have hlen : gs.length = A.length := by rw [← hg, List.length_map]
  have hnn : ∀ y ∈ gs.map HW.co1, y.n = N ∧ y.cnt = 1 ∧ y.x.all Cl.ok = true := fun y hy => by
    obtain ⟨u, hu, rfl⟩ := List.mem_map.1 hy
    exact ⟨by show u.n = N; rw [← hn u hu]; exact (hrow _ (hm u hu)).1, rfl, (hrow _ (hm u hu)).2⟩
  unfold chkE
  rw [if_neg, if_pos]
  · rw [List.all_eq_true]
    intro y hy
    have hy' : y ∈ gs.map HW.co1 := by simpa using hy
    have hw : widH ([gs.map HW.co1] : List (List HCo)).flatten = N := by
      cases gs with
      | nil => cases hy'
      | cons z t => exact (hnn z.co1 (by simp)).1
    rw [hw]
    obtain ⟨h1, h2, h3⟩ := hnn y hy'
    simp only [corB, cntB, Bool.and_eq_true, decide_eq_true_eq]
    exact ⟨h1, ⟨by omega, by omega⟩, h3⟩
  · simp only [List.any_cons, List.any_nil, Bool.or_false, manyB, Bool.or_eq_true, decide_eq_true_eq, List.any_eq_true, not_or, not_exists, not_and]
    exact ⟨by rw [List.length_map]; omega, fun y hy => by rw [(hnn y hy).1]; omega⟩
theorem sumE_T {A : List (List Cl)} (hA : A.length ≤ 4096) {L : List (List Cl × Int)} (hL : SumK cmpCs (A.map one1) L) : sumE L = 0 := by
  have hbd := hL.bd (M := 1) (by omega) (fun x hx => by
    obtain ⟨r, _, rfl⟩ := List.mem_map.1 hx; exact ⟨by show (0 : Int) ≤ 1; decide, by show (1 : Int) ≤ 1; decide⟩)
  unfold sumE
  rw [if_neg]
  rw [Bool.not_eq_true, List.any_eq_false]
  intro x hx
  have := (hbd x hx).2
  rw [List.length_map] at this
  simp; omega
end Go.Proofs.YtjfhfbobnncpkaaDoor
namespace Go.Proofs.YtjfhfbobnncpkaaDoor
open Go.RowKit
def gC : Cl := ⟨1, ⟨0#32, 0#32⟩⟩
theorem gap_sum : (([[gC], [gC]] : List (List Cl)).map one1).foldl (addK cmpCs) [] = [([gC], 2)] := by decide +kernel
theorem one_of {hs : List HCo} {p : List Cl × Int} (h : hs.map kp = [p]) : ∃ y, hs = [y] ∧ kp y = p := by
  have hl := congrArg List.length h
  simp only [List.length_map, List.length_cons, List.length_nil] at hl
  match hs, hl with
  | [a], _ => exact ⟨a, rfl, by simpa using h⟩
theorem works20_any (w : World) : Calls Tryd.prog 4 #[] w fun e w' => e = .returned (.bool true) ∧ Ext w w' := by
  have o1 := OwnK.rdc Cl.len (lit_own Cl.len w 50 [gC] #[.int .i64 1, .int .u32 0, .int .u32 0] rfl (n := 1) rfl (by decide))
  have o2 := OwnK.rdc Cl.len (lit_own Cl.len (w.alloc (.cells #[.int .i64 1, .int .u32 0, .int .u32 0] 50)) 50 [gC] #[.int .i64 1, .int .u32 0, .int .u32 0] rfl (n := 1) rfl (by decide))
  have hx1 := Ext.alloc1 w (.cells #[.int .i64 1, .int .u32 0, .int .u32 0] 50)
  have s1 : (w.alloc (.cells #[.int .i64 1, .int .u32 0, .int .u32 0] 50)).heap.size = w.heap.size + 1 := by simp
  have s2 : ((w.alloc (.cells #[.int .i64 1, .int .u32 0, .int .u32 0] 50)).alloc (.cells #[.int .i64 1, .int .u32 0, .int .u32 0] 50)).heap.size = w.heap.size + 1 + 1 := by simp
  rw [s1] at o2
  have o3 := OwnK.rdc HW.len (lit_own HW.len ((w.alloc (.cells #[.int .i64 1, .int .u32 0, .int .u32 0] 50)).alloc (.cells #[.int .i64 1, .int .u32 0, .int .u32 0] 50)) 43 [⟨some ⟨w.heap.size, 0, none⟩, 1, 1, [gC]⟩, ⟨some ⟨w.heap.size + 1, 0, none⟩, 1, 1, [gC]⟩] #[.slice (some ⟨w.heap.size, 0, none⟩) 1 1, .slice (some ⟨w.heap.size + 1, 0, none⟩) 1 1] rfl (n := 2) rfl (by decide))
  rw [s2] at o3
  have hx2 : Ext (w.alloc (.cells #[.int .i64 1, .int .u32 0, .int .u32 0] 50)) (((w.alloc (.cells #[.int .i64 1, .int .u32 0, .int .u32 0] 50)).alloc (.cells #[.int .i64 1, .int .u32 0, .int .u32 0] 50)).alloc (.cells #[.slice (some ⟨w.heap.size, 0, none⟩) 1 1, .slice (some ⟨w.heap.size + 1, 0, none⟩) 1 1] 43)) := (by repeat (first | exact Ext.refl _ | refine Ext.drew ?_ | refine Ext.drewN ?_ _ | refine Ext.alloc ?_ _))
  have hx3 : Ext ((w.alloc (.cells #[.int .i64 1, .int .u32 0, .int .u32 0] 50)).alloc (.cells #[.int .i64 1, .int .u32 0, .int .u32 0] 50)) (((w.alloc (.cells #[.int .i64 1, .int .u32 0, .int .u32 0] 50)).alloc (.cells #[.int .i64 1, .int .u32 0, .int .u32 0] 50)).alloc (.cells #[.slice (some ⟨w.heap.size, 0, none⟩) 1 1, .slice (some ⟨w.heap.size + 1, 0, none⟩) 1 1] 43)) := (by repeat (first | exact Ext.refl _ | refine Ext.drew ?_ | refine Ext.drewN ?_ _ | refine Ext.alloc ?_ _))
  have hrd : RdHW (((w.alloc (.cells #[.int .i64 1, .int .u32 0, .int .u32 0] 50)).alloc (.cells #[.int .i64 1, .int .u32 0, .int .u32 0] 50)).alloc (.cells #[.slice (some ⟨w.heap.size, 0, none⟩) 1 1, .slice (some ⟨w.heap.size + 1, 0, none⟩) 1 1] 43)) (some ⟨w.heap.size + 1 + 1, 0, none⟩) 2 2 [⟨some ⟨w.heap.size, 0, none⟩, 1, 1, [gC]⟩, ⟨some ⟨w.heap.size + 1, 0, none⟩, 1, 1, [gC]⟩] := ⟨o3, fun y hy => by
    simp only [List.mem_cons, List.not_mem_nil, or_false] at hy
    rcases hy with rfl | rfl
    · exact o1.ext hx2
    · exact o2.ext hx3⟩
  have hc := collect_any _ 2 2 _ _ hrd (by omega)
  have hx0 : Ext w (((w.alloc (.cells #[.int .i64 1, .int .u32 0, .int .u32 0] 50)).alloc (.cells #[.int .i64 1, .int .u32 0, .int .u32 0] 50)).alloc (.cells #[.slice (some ⟨w.heap.size, 0, none⟩) 1 1, .slice (some ⟨w.heap.size + 1, 0, none⟩) 1 1] 43)) := (by repeat (first | exact Ext.refl _ | refine Ext.drew ?_ | refine Ext.drewN ?_ _ | refine Ext.alloc ?_ _))
  have hE : chkE [([⟨some ⟨w.heap.size, 0, none⟩, 1, 1, [gC]⟩, ⟨some ⟨w.heap.size + 1, 0, none⟩, 1, 1, [gC]⟩] : List HW).map HW.co1] = 0 := by rfl
  have hK : ((([⟨some ⟨w.heap.size, 0, none⟩, 1, 1, [gC]⟩, ⟨some ⟨w.heap.size + 1, 0, none⟩, 1, 1, [gC]⟩] : List HW).map HW.co1).map kp) = ([[gC], [gC]] : List (List Cl)).map one1 := by rfl
  rw [hE, hK] at hc
  clear o1 o2 o3 hrd hE hK s1 s2 hx1 hx2 hx3
  go_enter Tryd.func4, Tryd.ntmps4
  go_wp2_with fail
  refine hc.mono ?_
  rintro e w4 (⟨h0, _⟩ | ⟨_, L, hL, v, hs, rfl, hown, hk, hx⟩)
  · exact absurd rfl h0
  · have hLL := (sumT_is hL).trans gap_sum
    subst hLL
    have hS : sumE [([gC], (2 : Int))] = 0 := by decide
    rw [if_pos hS] at hk
    rw [hS]
    obtain ⟨y, rfl, hy⟩ := one_of hk
    obtain ⟨a, n, cap, hn, rfl, hr⟩ := hown.rd
    obtain rfl : n = 1 := hn
    obtain ⟨b, off, z, rfl, hz, hb, c0, c1, _⟩ := hr.at (i := 0) (by decide)
    have hzy : z = y := by have := hz.out; simpa using this.symm
    subst hzy
    have hcnt : z.cnt = 2 := congrArg Prod.snd hy
    rw [hcnt] at c1
    replace hy := Lib.hid hy
    replace hcnt := Lib.hid hcnt
    replace hz := Lib.hid hz.out
    clear hk hS hL
    go_wp2_with fail
    go_ret
    exact ⟨rfl, hx0.trans hx⟩
end Go.Proofs.YtjfhfbobnncpkaaDoor
namespace Go.Proofs.YtjfhfbobnncpkaaDoor
open Go.RowKit
/-- An entry: its gloss, the header of its forms, and these. -/
structure HE where
  g : ByteArray
  a : Option Addr
  n : Nat
  cap : Nat
  fs : List HF
def HE.enc (h : HE) : List Value := [.string h.g, .slice h.a h.n h.cap]
theorem HE.len (h : HE) : (HE.enc h).length = 2 := rfl
structure RdE (w : World) (a : Option Addr) (n cap : Nat) (es : List HE) : Prop where
  rd : RdK 2 HE.enc w a n cap es
  ok : ∀ h ∈ es, RdF w h.a h.n h.cap h.fs
theorem RdE.ext {w w' : World} {a : Option Addr} {n cap : Nat} {es : List HE} (h : RdE w a n cap es) (hx : Ext w w') : RdE w' a n cap es := ⟨h.rd.ext hx, fun y hy => (h.ok y hy).ext hx⟩
theorem RdE.at {w : World} {a : Option Addr} {n cap : Nat} {es : List HE} (h : RdE w a n cap es) {i : Nat} (hi : i < n) :
    ∃ b off y, a = some ⟨b, off, none⟩ ∧ Hid (es[i]? = some y) ∧ b < w.heap.size ∧ w.cell? ⟨b, off + i * 2, none⟩ = some (.string y.g) ∧ w.cell? ⟨b, off + i * 2 + 1, none⟩ = some (.slice y.a y.n y.cap) ∧ RdF w y.a y.n y.cap y.fs := by
  obtain ⟨b, off, x, ha, hx, hb, hc⟩ := h.rd.get hi
  exact ⟨b, off, x, ha, hx, hb, by simpa using hc 0 _ rfl, hc 1 _ rfl, h.ok x (List.mem_of_getElem? hx.out)⟩
/-! ### A long row of ints that is made -/
theorem run_mkI (n : Nat) (hn : n ≤ 4398046511104) (w : World) :
    (Instr.makeSlice 28 (.int .i64 (n : Int)) (.int .i64 (n : Int))).run Tryd.prog w = .ok (.slice (some ⟨w.heap.size, 0, none⟩) n n) (w.alloc (.cells (madeCells #[.int .i64 0] (n * 1)) 3)) := by
  obtain ⟨i, hi, hz0, hz1, hz2⟩ := info_parts info_int1
  have hb' : (i.bytes : Int) * (n : Int) ≤ 281474976710656 := by rw [hz2]; omega
  have hr := run_make (P := Tryd.prog) w 28 3 i (.int .i64 0) Tryd.underlying28 hi hz0 .i64 .i64 n n (by omega) (Int.le_refl _) hb' (by omega)
  rw [hz1, show (Value.int .i64 0).cells = #[Value.int .i64 0] from rfl] at hr
  simpa only [Int.toNat_natCast] using hr
theorem made_ownI (w : World) (n : Nat) (hn : n ≤ 4398046511104) :
    OwnI w.heap.size 3 (w.alloc (.cells (madeCells #[.int .i64 0] (n * 1)) 3)) (.slice (some ⟨w.heap.size, 0, none⟩) n n) (List.replicate n 0) := by
  have h := World.ownsRow_lit w (madeCells #[.int .i64 0] (n * 1)) (e := 3) (size := 1) n (Nat.le_refl _) (by unfold maxLen; omega) (size_madeCells _ _)
  refine OwnK.of_row h (by simp) ?_
  rw [made_list I64.len (by decide) #[.int .i64 0] (0 : Int) rfl]
/-! ### What stands -/
structure AllI (wb W : World) (v : Value) (gs : List HW) : Prop where
  ext : Ext wb W
  own : OwnK 1 HW.enc wb.heap.size 43 W v gs
  ok : ∀ h ∈ gs, OwnC wb.heap.size 50 W (.slice h.a h.n h.cap) h.x
theorem AllI.kept {wb W W' : World} {v : Value} {gs : List HW} (h : AllI wb W v gs) (hx : Ext W W') : AllI wb W' v gs := ⟨h.ext.trans hx, h.own.kept hx, fun y hy => (h.ok y hy).kept hx⟩
abbrev SndI (B : Nat) (W : World) (S N : Nat) (zs : List Int) : Prop := OwnI B 3 W (.slice (some ⟨S, 0, none⟩) N N) zs
theorem AllI.set {wb W : World} {v : Value} {gs : List HW} {B S N : Nat} {zs : List Int} (h : AllI wb W v gs) (hs : SndI B W S N zs) (hS : wb.heap.size ≤ S) (k : Nat) (u : Value) : AllI wb (W.setCell ⟨S, k, none⟩ u) v gs := by
  obtain ⟨cur, hc⟩ := own_type hs (g := S) rfl
  exact ⟨ext_set h.ext hS k u, own_offT h.own hc (by decide), fun y hy => own_offT (h.ok y hy) hc (by decide)⟩
/-- A cell of a row of ints is an int. -/
theorem snd_cell {B : Nat} {W : World} {S N : Nat} {zs : List Int} (h : SndI B W S N zs) {j : Nat} {u : Value} (hu : W.cell? ⟨S, j, none⟩ = some u) : ∃ z, u = .int .i64 z := by
  obtain ⟨h1, h2⟩ := h
  rcases h2 with ⟨h3, _⟩ | ⟨g', cap', cur, h3, _, hh, h4, _, h6, ht⟩
  · cases h3
  · simp only [Value.slice.injEq, Option.some.injEq, Addr.mk.injEq, and_true] at h3
    obtain ⟨rfl, rfl, h8⟩ := h3
    simp only [World.cell?, hh] at hu
    have hlt : j < cur.size := (Array.getElem?_eq_some_iff.1 hu).1
    have hcs : cur.size = zs.length := by rw [h6, ← h8]; omega
    rw [flat_i64'] at ht
    have h9 : cur.toList = zs.map (fun x => Value.int .i64 x) := by
      rw [← ht, List.take_of_length_le]
      rw [Array.length_toList, hcs]; omega
    have h10 : cur.toList[j]? = some u := by simpa using hu
    rw [h9, List.getElem?_map] at h10
    obtain ⟨z, _, rfl⟩ := Option.map_eq_some_iff.1 h10
    exact ⟨z, rfl⟩
/-- Cells are not read from a row of ints. -/
theorem rdc_set {B : Nat} {W : World} {S N : Nat} {zs : List Int} (h : SndI B W S N zs) {a : Option Addr} {n cap : Nat} {xs : List Cl} (hr : RdC W a n cap xs) (k : Nat) (u : Value) : RdC (W.setCell ⟨S, k, none⟩ u) a n cap xs := by
  refine ⟨hr.len, hr.le, hr.most, hr.isnil, fun hn => ?_⟩
  obtain ⟨b, off, ha, hb, hc⟩ := hr.pos hn
  have hlt : 0 < xs.length := by rw [hr.len]; exact hn
  have hne : b ≠ S := fun e => by
    subst e
    have h1 := hc 0 _ (List.getElem?_eq_getElem hlt) 1 _ rfl
    obtain ⟨z, hz⟩ := snd_cell h h1
    cases hz
  refine ⟨b, off, ha, by simpa using hb, fun i x hi j v hv => ?_⟩
  rw [← hc i x hi j v hv]
  simp only [World.cell?]
  rw [Below.heap_setCell]
  exact hne
/-- The correspondences that were collected. -/
structure ColX (W : World) (v : Value) (hs : List HCo) : Prop where
  own : OwnK 2 HCo.enc 0 45 W v hs
  ok : ∀ y ∈ hs, RdC W y.a y.n y.cap y.x
theorem ColX.set {W : World} {v : Value} {hs : List HCo} {B S N : Nat} {zs : List Int} (h : ColX W v hs) (hs' : SndI B W S N zs) (k : Nat) (u : Value) : ColX (W.setCell ⟨S, k, none⟩ u) v hs := by
  obtain ⟨cur, hc⟩ := own_type hs' (g := S) rfl
  exact ⟨own_offT h.own hc (by decide), fun y hy => rdc_set hs' (h.ok y hy) k u⟩
theorem ColX.kept {W W' : World} {v : Value} {hs : List HCo} (h : ColX W v hs) (hx : Ext W W') : ColX W' v hs := ⟨h.own.kept hx, fun y hy => (h.ok y hy).ext hx⟩
/-- Counts: those before k are of f, the others of g. -/
def CntI (N k : Nat) (f g : Nat → Int) (zs : List Int) : Prop := ∀ j, j < N → zs[j]? = some (if j < k then f j else g j)
theorem CntI.set {N k : Nat} {f g : Nat → Int} {zs : List Int} (h : CntI N k f g zs) (hk : k < N) : CntI N (k + 1) f g (zs.set k (f k)) := fun j hj => by
  rw [List.getElem?_set]
  by_cases e : k = j
  · subst e
    have := (List.getElem?_eq_some_iff.1 (h k hk)).1
    rw [if_pos rfl, if_pos this, if_pos (by omega)]
  · rw [if_neg e, h j hj]
    by_cases hl : j < k
    · rw [if_pos hl, if_pos (by omega)]
    · rw [if_neg hl, if_neg (by omega)]
theorem CntI.skip {N k : Nat} {f g : Nat → Int} {zs : List Int} (h : CntI N k f g zs) (hk : f k = g k) : CntI N (k + 1) f g zs := fun j hj => by
  rw [h j hj]
  by_cases hl : j < k
  · rw [if_pos hl, if_pos (by omega)]
  · rw [if_neg hl]
    by_cases e : j = k
    · subst e; rw [if_pos (by omega), hk]
    · rw [if_neg (by omega)]
theorem CntI.done {N : Nat} {f g : Nat → Int} {zs : List Int} (h : CntI N N f g zs) (g' : Nat → Int) : CntI N 0 g' f zs := fun j hj => by
  rw [h j hj, if_pos hj, if_neg (Nat.not_lt_zero _)]
theorem CntI.congr {N k : Nat} {f g f' g' : Nat → Int} {zs : List Int} (h : CntI N k f g zs) (hf : ∀ j, j < N → f j = f' j) (hg : ∀ j, j < N → g j = g' j) : CntI N k f' g' zs := fun j hj => by rw [h j hj, hf j hj, hg j hj]
theorem sumP_snoc (P : List Cl → Bool) (L : List (List Cl × Int)) (x : List Cl × Int) : sumP P (L ++ [x]) = sumP P L + if P x.1 = true then x.2 else 0 := by
  rw [sumP_app]; simp [sumP]
theorem sumP_bd (P : List Cl → Bool) {M : Int} (hM : 0 ≤ M) : ∀ L : List (List Cl × Int), (∀ x ∈ L, 0 ≤ x.2 ∧ x.2 ≤ M) → 0 ≤ sumP P L ∧ sumP P L ≤ M * L.length
  | [], _ => by simp [sumP]
  | x :: L, h => by
    have ih := sumP_bd P hM L fun y hy => h y (List.mem_cons_of_mem _ hy)
    have hx := h x List.mem_cons_self
    simp only [sumP, List.length_cons]
    have : M * ((L.length + 1 : Nat) : Int) = M * L.length + M := by rw [Int.natCast_add, Int.mul_add]; simp
    split <;> omega
theorem cntS_le (L : List (List Cl)) (k : Nat) : cntS L k ≤ L.length := by unfold cntS; exact List.length_filter_le _ _
end Go.Proofs.YtjfhfbobnncpkaaDoor
