/-
  Correspondences as they read; valid cells; lists searched by a function.
  check of lists of correspondences.
  corr.all, corr.Total.
-/
import Derived.Test.YtjfhfbobnncpkaaDoorCe
import Derived.Test.YtjfhfbobnncpkaaDoorRg
namespace Go.Proofs.YtjfhfbobnncpkaaDoor
open Go.RowKit
/-- A cell is valid. -/
def Cl.ok (c : Cl) : Bool := if c.kind = 0 ∨ c.kind = 1 then decide (c.s = nulS) else if c.kind = 2 then c.s.ok else false
theorem eql_nul (s : Snd) (w : World) : (binOp .eql 48 (.agg #[.int .u32 s.p.toNat, .int .u32 s.m.toNat]) (.agg #[.int .u32 0, .int .u32 0])).run Tryd.prog w = .ok (.bool (decide (s = nulS))) w := eql_snd s nulS w
theorem cvalid_any (c : Cl) (w : World) : Calls Tryd.prog 28 #[clV c] w fun e w' => e = .returned (.bool c.ok) ∧ Ext w w' := by
  have he := eql_nul
  by_cases h0 : c.kind = 0
  · have hd : (c.kind == 0) = true := by simpa using h0
    have hc : c.ok = decide (c.s = nulS) := by simp [Cl.ok, h0]
    replace hc := Lib.hid hc
    clear h0
    go_enter Tryd.func28, Tryd.ntmps28
    go_wp2_with fail
    go_ret
    exact ⟨ret_bool hc.out.symm, Ext.alloc1 _ _⟩
  by_cases h1 : c.kind = 1
  · have hd0 : (c.kind == 0) = false := by simpa using h0
    have hd : (c.kind == 1) = true := by simpa using h1
    have hc : c.ok = decide (c.s = nulS) := by simp [Cl.ok, h1]
    replace hc := Lib.hid hc
    clear h0 h1
    go_enter Tryd.func28, Tryd.ntmps28
    go_wp2_with fail
    go_ret
    exact ⟨ret_bool hc.out.symm, Ext.alloc1 _ _⟩
  by_cases h2 : c.kind = 2
  · have hd0 : (c.kind == 0) = false := by simpa using h0
    have hd1 : (c.kind == 1) = false := by simpa using h1
    have hd : (c.kind == 2) = true := by simpa using h2
    have hc : c.ok = c.s.ok := by simp [Cl.ok, h2]
    replace hc := Lib.hid hc
    clear h0 h1 h2
    go_enter Tryd.func28, Tryd.ntmps28
    go_wp2_with fail
    refine (fvalid_any c.s _).mono ?_
    rintro e w1 ⟨rfl, hx1⟩
    go_wp2_with fail
    go_ret
    exact ⟨ret_bool hc.out.symm, (by repeat (first | exact Ext.refl _ | assumption | refine Ext.drew ?_ | refine Ext.drewN ?_ _ | refine Ext.alloc ?_ _ | refine Ext.trans ?_ (by assumption)))⟩
  · have hd0 : (c.kind == 0) = false := by simpa using h0
    have hd1 : (c.kind == 1) = false := by simpa using h1
    have hd : (c.kind == 2) = false := by simpa using h2
    have hc : c.ok = false := by simp [Cl.ok, h0, h1, h2]
    replace hc := Lib.hid hc
    clear h0 h1 h2
    go_enter Tryd.func28, Tryd.ntmps28
    go_wp2_with fail
    go_ret
    exact ⟨ret_bool hc.out.symm, Ext.alloc1 _ _⟩
/-! ### Correspondences -/
/-- A correspondence's header, and its cells. -/
structure HCo where
  a : Option Addr
  n : Nat
  cap : Nat
  cnt : Int
  x : List Cl
def HCo.enc (h : HCo) : List Value := [.slice h.a h.n h.cap, .int .i64 h.cnt]
theorem HCo.len (h : HCo) : h.enc.length = 2 := rfl
theorem HCo.one (h : HCo) : ∀ u ∈ h.enc, u.oneCell' = true := by intro u hu; simp [HCo.enc] at hu; rcases hu with rfl | rfl <;> rfl
/-- A correspondence: its cells, and how often it occurs. -/
structure Co where
  x : List Cl
  cnt : Int
def HCo.co (h : HCo) : Co := ⟨h.x, h.cnt⟩
/-- Headers that lead to cells. -/
structure RdH (w : World) (a : Option Addr) (n cap : Nat) (hs : List HCo) : Prop where
  rd : RdK 2 HCo.enc w a n cap hs
  ok : ∀ h ∈ hs, RdC w h.a h.n h.cap h.x
theorem RdH.ext {w w' : World} {a : Option Addr} {n cap : Nat} {hs : List HCo} (h : RdH w a n cap hs) (hx : Ext w w') : RdH w' a n cap hs := ⟨h.rd.ext hx, fun y hy => (h.ok y hy).ext hx⟩
theorem RdH.at {w : World} {a : Option Addr} {n cap : Nat} {hs : List HCo} (h : RdH w a n cap hs) {i : Nat} (hi : i < n) :
    ∃ b off y, a = some ⟨b, off, none⟩ ∧ Hid (hs[i]? = some y) ∧ b < w.heap.size ∧ w.cell? ⟨b, off + i * 2, none⟩ = some (.slice y.a y.n y.cap) ∧ w.cell? ⟨b, off + i * 2 + 1, none⟩ = some (.int .i64 y.cnt) ∧ RdC w y.a y.n y.cap y.x := by
  obtain ⟨b, off, x, ha, hx, hb, hc⟩ := h.rd.get hi
  exact ⟨b, off, x, ha, hx, hb, by simpa using hc 0 _ rfl, hc 1 _ rfl, h.ok x (List.mem_of_getElem? hx.out)⟩
abbrev coV (y : HCo) : Value := .agg #[.slice y.a y.n y.cap, .int .i64 y.cnt]
/-- A list of lists of correspondences. -/
def RH (w : World) (v : Value) (hs : List HCo) : Prop := ∃ a n cap, v = .slice a n cap ∧ RdH w a n cap hs
theorem RH.ext {w w' : World} {v : Value} {x : List HCo} (h : RH w v x) (hx : Ext w w') : RH w' v x := let ⟨a, n, cap, hv, hr⟩ := h; ⟨a, n, cap, hv, hr.ext hx⟩
abbrev RdL := RdV RH
theorem RdL.ext {w w' : World} {a : Option Addr} {n cap : Nat} {ls : List (List HCo)} (h : RdL w a n cap ls) (hx : Ext w w') : RdL w' a n cap ls := RdV.ext (R := RH) (fun _ _ _ _ h hx => RH.ext h hx) h hx
/-! ### The functions that are handed over -/
theorem chk1_any (y : HCo) (w : World) : Calls Tryd.prog 25 #[coV y] w fun e w' => e = .returned (.bool (decide (64 < y.n))) ∧ Ext w w' := by
  go_enter Tryd.func25, Tryd.ntmps25
  go_wp2
  go_ret
  exact ⟨ret_bool (by rw [Bool.eq_iff_iff]; simp; omega), Ext.alloc1 _ _⟩
theorem chk2_any (c : Cl) (w : World) : Calls Tryd.prog 27 #[clV c] w fun e w' => e = .returned (.bool (!c.ok)) ∧ Ext w w' := by
  go_enter Tryd.func27, Tryd.ntmps27
  go_wp2_with fail
  refine (cvalid_any c _).mono ?_
  rintro e w1 ⟨rfl, hx1⟩
  go_wp2_with fail
  go_ret
  exact ⟨rfl, (by repeat (first | exact Ext.refl _ | assumption | refine Ext.drew ?_ | refine Ext.drewN ?_ _ | refine Ext.alloc ?_ _ | refine Ext.trans ?_ (by assumption)))⟩
theorem any_of_at {α : Type} {xs : List α} {p : α → Bool} {i : Nat} {x : α} (hi : xs[i]? = some x) (hp : p x = true) : xs.any p = true := List.any_eq_true.2 ⟨x, List.mem_of_getElem? hi, hp⟩
theorem any_none {α : Type} {xs : List α} {p : α → Bool} {n : Nat} (hl : xs.length = n) (h : ∀ (i : Nat) (x : α), i < n → xs[i]? = some x → (!p x) = true) : xs.any p = false := by
  rw [List.any_eq_false]; intro x hx
  obtain ⟨i, hi⟩ := List.getElem?_of_mem hx
  have := h i x (by have := (List.getElem?_eq_some_iff.1 hi).1; omega) hi
  simpa using this
theorem indexH_any (a : Option Addr) (n cap : Nat) (xs : List HCo) (w : World) (hr : RdH w a n cap xs) :
    Calls Tryd.prog 41 #[.slice a n cap, .func (.func 25) #[] #[]] w fun e w' => ∃ r : Int, e = .returned (.int .i64 r) ∧ decide (0 ≤ r) = xs.any (fun y => decide (64 < y.n)) ∧ Ext w w' := by
  have hl := hr.rd.len
  have hmax : n ≤ 9223372036854775807 := by have := hr.rd.le; have := hr.rd.most; unfold maxLen at this; omega
  replace hl := Lib.hid hl
  go_enter Tryd.func41, Tryd.ntmps41
  go_wp2_with fail
  go_loopw [8] (fun i wr => ∃ k : Nat, k ≤ n ∧ i = .int .i64 k ∧ Ext w wr ∧ Hid (∀ (i : Nat) (y : _), i < k → xs[i]? = some y → (!(fun y : HCo => decide (64 < y.n)) y) = true)) (fun i _ => n - (intOf i).toNat)
  case atStart => exact ⟨0, Nat.zero_le _, rfl, Ext.refl _, fun i x hi => absurd hi (Nat.not_lt_zero _)⟩
  case round =>
    obtain ⟨k, hk, rfl, hx, hall⟩ := hrel
    by_cases hlt : k < n
    · obtain ⟨b, off, y, rfl, hs, hb, hc0, hc1, _⟩ := (hr.ext hx).at hlt
      cases hp : (fun y : HCo => decide (64 < y.n)) y
      · have hnew := Lib.hid (all_succ (p := fun y => !(fun y : HCo => decide (64 < y.n)) y) hall.out hs.out (by show (!(fun y : HCo => decide (64 < y.n)) y) = true; rw [hp]; rfl))
        go_wp2_with fail
        refine (cbool (chk1_any y _) hp).mono ?_
        rintro e w1 ⟨rfl, hx1⟩
        clear hp
        go_wp2_with fail
        (first | exact ⟨⟨k + 1, by omega, by go_num, hx.trans hx1, hnew⟩, (by simp [intOf]; omega)⟩ | (go_roundw; case rel => exact ⟨k + 1, by omega, by go_num, hx.trans hx1, hnew⟩; case measure => exact (by simp [intOf]; omega)))
      · have hany := Lib.hid (any_of_at (p := fun y : HCo => decide (64 < y.n)) hs.out hp)
        go_wp2_with fail
        refine (cbool (chk1_any y _) hp).mono ?_
        rintro e w1 ⟨rfl, hx1⟩
        clear hp
        go_wp2_with fail
        go_ret
        exact ⟨(k : Int), rfl, by rw [hany.out]; simp, hx.trans hx1⟩
    · go_wp2_with fail
      go_ret
      exact ⟨-1, rfl, by rw [any_none (p := fun y : HCo => decide (64 < y.n)) hl.out (fun i y hi => hall.out i y (by omega))]; simp, hx⟩
theorem indexCF_any (a : Option Addr) (n cap : Nat) (xs : List Cl) (w : World) (hr : RdC w a n cap xs) :
    Calls Tryd.prog 42 #[.slice a n cap, .func (.func 27) #[] #[]] w fun e w' => ∃ r : Int, e = .returned (.int .i64 r) ∧ decide (0 ≤ r) = xs.any (fun y => !y.ok) ∧ Ext w w' := by
  have hl := hr.len
  have hmax : n ≤ 9223372036854775807 := by have := hr.le; have := hr.most; unfold maxLen at this; omega
  replace hl := Lib.hid hl
  go_enter Tryd.func42, Tryd.ntmps42
  go_wp2_with fail
  go_loopw [8] (fun i wr => ∃ k : Nat, k ≤ n ∧ i = .int .i64 k ∧ Ext w wr ∧ Hid (∀ (i : Nat) (y : _), i < k → xs[i]? = some y → (!(fun y : Cl => !y.ok) y) = true)) (fun i _ => n - (intOf i).toNat)
  case atStart => exact ⟨0, Nat.zero_le _, rfl, Ext.refl _, fun i x hi => absurd hi (Nat.not_lt_zero _)⟩
  case round =>
    obtain ⟨k, hk, rfl, hx, hall⟩ := hrel
    by_cases hlt : k < n
    · obtain ⟨b, off, y, rfl, hs, hb, hc0, hc1, hc2⟩ := (hr.ext hx).cl hlt
      cases hp : (fun y : Cl => !y.ok) y
      · have hnew := Lib.hid (all_succ (p := fun y => !(fun y : Cl => !y.ok) y) hall.out hs.out (by show (!(fun y : Cl => !y.ok) y) = true; rw [hp]; rfl))
        go_wp2_with fail
        refine (cbool (chk2_any y _) hp).mono ?_
        rintro e w1 ⟨rfl, hx1⟩
        clear hp
        go_wp2_with fail
        (first | exact ⟨⟨k + 1, by omega, by go_num, hx.trans hx1, hnew⟩, (by simp [intOf]; omega)⟩ | (go_roundw; case rel => exact ⟨k + 1, by omega, by go_num, hx.trans hx1, hnew⟩; case measure => exact (by simp [intOf]; omega)))
      · have hany := Lib.hid (any_of_at (p := fun y : Cl => !y.ok) hs.out hp)
        go_wp2_with fail
        refine (cbool (chk2_any y _) hp).mono ?_
        rintro e w1 ⟨rfl, hx1⟩
        clear hp
        go_wp2_with fail
        go_ret
        exact ⟨(k : Int), rfl, by rw [hany.out]; simp, hx.trans hx1⟩
    · go_wp2_with fail
      go_ret
      exact ⟨-1, rfl, by rw [any_none (p := fun y : Cl => !y.ok) hl.out (fun i y hi => hall.out i y (by omega))]; simp, hx⟩
theorem containsH_any (a : Option Addr) (n cap : Nat) (xs : List HCo) (w : World) (hr : RdH w a n cap xs) :
    Calls Tryd.prog 24 #[.slice a n cap, .func (.func 25) #[] #[]] w fun e w' => e = .returned (.bool (xs.any fun y => decide (64 < y.n))) ∧ Ext w w' := by
  go_enter Tryd.func24, Tryd.ntmps24
  go_wp2_with fail
  refine (indexH_any a n cap xs _ hr).mono ?_
  rintro e w1 ⟨r, rfl, hd, hx1⟩
  replace hd := Lib.hid hd
  go_wp2_with fail
  go_ret
  exact ⟨ret_bool hd.out, hx1⟩
theorem containsCF_any (a : Option Addr) (n cap : Nat) (xs : List Cl) (w : World) (hr : RdC w a n cap xs) :
    Calls Tryd.prog 26 #[.slice a n cap, .func (.func 27) #[] #[]] w fun e w' => e = .returned (.bool (xs.any fun y => !y.ok)) ∧ Ext w w' := by
  go_enter Tryd.func26, Tryd.ntmps26
  go_wp2_with fail
  refine (indexCF_any a n cap xs _ hr).mono ?_
  rintro e w1 ⟨r, rfl, hd, hx1⟩
  replace hd := Lib.hid hd
  go_wp2_with fail
  go_ret
  exact ⟨ret_bool hd.out, hx1⟩
end Go.Proofs.YtjfhfbobnncpkaaDoor
namespace Go.Proofs.YtjfhfbobnncpkaaDoor
open Go.RowKit
def manyB (l : List HCo) : Bool := decide (4096 < l.length) || l.any (fun y => decide (64 < y.n))
def cntB (y : HCo) : Bool := decide (1 ≤ y.cnt) && decide (y.cnt ≤ 2147483647)
def corB (W : Nat) (y : HCo) : Bool := decide (y.n = W) && (cntB y && y.x.all Cl.ok)
def widH : List HCo → Nat
  | [] => 0
  | y :: _ => y.n
/-- The error of lists of correspondences. -/
def chkE (ls : List (List HCo)) : Int := if ls.any manyB = true then 12 else if ls.flatten.all (corB (widH ls.flatten)) = true then 0 else 2
theorem chkE_many {ls : List (List HCo)} {i : Nat} {l : List HCo} (h : ls[i]? = some l) (hm : manyB l = true) : chkE ls = 12 := by
  unfold chkE; rw [if_pos (any_of_at h hm)]
theorem chkE_bad {ls : List (List HCo)} (h0 : ls.any manyB = false) {y : HCo} (hy : y ∈ ls.flatten) (hb : corB (widH ls.flatten) y = false) : chkE ls = 2 := by
  unfold chkE
  rw [h0, if_neg (by simp), if_neg]
  intro h
  rw [List.all_eq_true.1 h y hy] at hb; cases hb
theorem chkE_ok {ls : List (List HCo)} (h0 : ls.any manyB = false) (h : ∀ y ∈ ls.flatten, corB (widH ls.flatten) y = true) : chkE ls = 0 := by
  unfold chkE
  rw [h0, if_neg (by simp), if_pos (List.all_eq_true.2 h)]
/-- What has been seen, and the width that is kept. -/
def InvW (W : Nat) (done : List HCo) (wv : Int) : Prop := (∀ y ∈ done, corB W y = true) ∧ ((done = [] ∧ wv = -1) ∨ (done ≠ [] ∧ wv = W))
theorem flat_split {ls : List (List HCo)} {i j : Nat} {l : List HCo} {y : HCo} (h : ls[i]? = some l) (hy : l[j]? = some y) : ∃ r, ls.flatten = ((ls.take i).flatten ++ l.take j) ++ y :: r := by
  have h1 : ls = ls.take i ++ l :: ls.drop (i + 1) := by
    obtain ⟨hi, he⟩ := List.getElem?_eq_some_iff.1 h
    rw [← he, List.getElem_cons_drop, List.take_append_drop]
  have h2 : l = l.take j ++ y :: l.drop (j + 1) := by
    obtain ⟨hi, he⟩ := List.getElem?_eq_some_iff.1 hy
    rw [← he, List.getElem_cons_drop, List.take_append_drop]
  refine ⟨l.drop (j + 1) ++ (ls.drop (i + 1)).flatten, ?_⟩
  calc ls.flatten = (ls.take i ++ l :: ls.drop (i + 1)).flatten := by rw [← h1]
    _ = (ls.take i).flatten ++ (l ++ (ls.drop (i + 1)).flatten) := by simp
    _ = (ls.take i).flatten ++ ((l.take j ++ y :: l.drop (j + 1)) ++ (ls.drop (i + 1)).flatten) := by rw [← h2]
    _ = _ := by simp
theorem all_not_any {α : Type} {xs : List α} {p : α → Bool} : (xs.any fun y => !p y) = !xs.all p := by
  induction xs with
  | nil => rfl
  | cons x xs ih => simp [ih]
set_option maxHeartbeats 2000000 in
theorem ccheck_any (a : Option Addr) (m cap : Nat) (ls : List (List HCo)) (w : World) (hr : RdL w a m cap ls) :
    Calls Tryd.prog 13 #[.slice a m cap] w fun e w' => e = .returned (.int .i64 (chkE ls)) ∧ Ext w w' := by
  have hl := RdV.len hr
  have hmax : m ≤ 9223372036854775807 := by have := RdV.le hr; have := RdV.most hr; unfold maxLen at this; omega
  replace hl := Lib.hid hl
  go_enter Tryd.func13, Tryd.ntmps13
  go_wp2_with fail
  go_loopw [12] (fun i wr => ∃ k : Nat, k ≤ m ∧ i = .int .i64 k ∧ Ext w wr ∧ Hid (∀ (i : Nat) (y : List HCo), i < k → ls[i]? = some y → (!manyB y) = true)) (fun i _ => m - (intOf i).toNat)
  case atStart => exact ⟨0, Nat.zero_le _, rfl, Ext.refl _, fun i y h => absurd h (Nat.not_lt_zero _)⟩
  case round =>
    obtain ⟨k, hk, rfl, hx, hall⟩ := hrel
    by_cases hlt : k < m
    · obtain ⟨b, off, _, l, rfl, hs, hb, hc0, al, nl, cl, rfl, hrl⟩ := RdV.at (hr.ext hx) hlt
      have hll := hrl.rd.len
      have hlb := hrl.rd.le
      have hlm := hrl.rd.most
      unfold maxLen at hlm
      by_cases h4 : 4096 < nl
      · have hm : manyB l = true := by simp [manyB, hll, h4]
        have her := Lib.hid (chkE_many hs.out hm)
        clear hm
        go_wp2_with fail
        go_ret
        exact ⟨ret_int her.out.symm, hx⟩
      · have hd4 : decide ((4096 : Int) < (nl : Int)) = false := by simp; omega
        cases h64 : l.any (fun y => decide (64 < y.n))
        · have hm : manyB l = false := by simp only [manyB, hll, h64]; simp; omega
          have hnew := Lib.hid (all_succ (p := fun y => !manyB y) hall.out hs.out (by simp [hm]))
          clear hm
          replace hll := Lib.hid hll
          go_wp2_with fail
          refine (cbool (containsH_any al nl cl l _ hrl) h64).mono ?_
          rintro e w1 ⟨rfl, hx1⟩
          clear h64
          go_wp2_with fail
          (first | exact ⟨⟨k + 1, by omega, by go_num, hx.trans hx1, hnew⟩, (by simp [intOf]; omega)⟩ | (go_roundw; case rel => exact ⟨k + 1, by omega, by go_num, hx.trans hx1, hnew⟩; case measure => exact (by simp [intOf]; omega)))
        · have hm : manyB l = true := by simp [manyB, h64]
          have her := Lib.hid (chkE_many hs.out hm)
          clear hm
          replace hll := Lib.hid hll
          go_wp2_with fail
          refine (cbool (containsH_any al nl cl l _ hrl) h64).mono ?_
          rintro e w1 ⟨rfl, hx1⟩
          clear h64
          go_wp2_with fail
          go_ret
          exact ⟨ret_int her.out.symm, hx.trans hx1⟩
    · have h0 : ls.any manyB = false := any_none hl.out (fun i y hi => hall.out i y (by omega))
      obtain ⟨W, hW⟩ : ∃ W, W = widH ls.flatten := ⟨_, rfl⟩
      replace h0 := Lib.hid h0
      replace hW := Lib.hid hW
      go_wp2_with fail
      go_loopw [5, 26] (fun wv i wr => ∃ (k : Nat) (wz : Int), k ≤ m ∧ i = .int .i64 k ∧ wv = .int .i64 wz ∧ Ext w wr ∧ Hid (InvW W (ls.take k).flatten wz)) (fun _ i _ => m - (intOf i).toNat)
      case atStart => exact ⟨0, -1, Nat.zero_le _, rfl, rfl, hx, ⟨fun y hy => (by cases hy), .inl ⟨rfl, rfl⟩⟩⟩
      case round =>
        obtain ⟨i, wz, hi, rfl, rfl, hxi, hinv⟩ := hrel
        by_cases hli : i < m
        · obtain ⟨b, off, _, l, rfl, hs, hb, hc0, al, nl, cl, rfl, hrl⟩ := RdV.at (hr.ext hxi) hli
          have hll := hrl.rd.len
          have hlb := hrl.rd.le
          have hlm := hrl.rd.most
          unfold maxLen at hlm
          replace hll := Lib.hid hll
          obtain ⟨wi, hwi⟩ : ∃ x, x = wr := ⟨_, rfl⟩
          rw [← hwi] at hxi hrl hc0
          rw [← hwi]
          clear hwi
          go_wp2_with fail
          go_loopw [5, 32] (fun wv jv wr => ∃ (j : Nat) (wz : Int), j ≤ nl ∧ jv = .int .i64 j ∧ wv = .int .i64 wz ∧ Ext wi wr ∧ Hid (InvW W ((ls.take i).flatten ++ l.take j) wz)) (fun _ jv _ => nl - (intOf jv).toNat)
          case atStart => exact ⟨0, wz, Nat.zero_le _, rfl, rfl, Ext.refl _, Lib.hid (by have := hinv.out; simpa using this)⟩
          case round =>
            obtain ⟨j, wy, hj, rfl, rfl, hxj, hinj⟩ := hrel
            by_cases hlj : j < nl
            · obtain ⟨b2, off2, y, rfl, hy, hb2, hd0, hd1, hyr⟩ := (hrl.ext hxj).at hlj
              obtain ⟨rr, hfl⟩ := flat_split hs.out hy.out
              have hmem : y ∈ ls.flatten := by rw [hfl]; simp
              have hbad : corB W y = false → chkE ls = 2 := fun h => chkE_bad h0.out hmem (by rw [← hW.out]; exact h)
              replace hbad := Lib.hid hbad
              have hyl := hyr.len
              have hgood : corB W y = true → InvW W ((ls.take i).flatten ++ l.take (j + 1)) W := fun h => by
                rw [take_succ_at hy.out]
                refine ⟨fun z hz => ?_, .inr ⟨by simp, rfl⟩⟩
                rw [← List.append_assoc] at hz
                rcases List.mem_append.1 hz with hz | hz
                · exact hinj.out.1 z hz
                · have : z = y := by simpa using hz
                  rw [this]; exact h
              replace hgood := Lib.hid hgood
              have hyn := hyr.le
              have hym := hyr.most
              unfold maxLen at hym
              rcases hinj.out.2 with ⟨hdn, hwm⟩ | ⟨hdn, hwm⟩
              · have hWy : y.n = W := by rw [hW.out, hfl, hdn]; rfl
                subst hwm
                have hWz : ((W : Nat) : Int) = (y.n : Int) := by rw [hWy]
                replace hWz := Lib.hid hWz
                clear hdn hfl hinj hyl
                replace hWy := Lib.hid hWy
                by_cases hc1 : y.cnt < 1
                · have hb : corB W y = false := by
                    have : cntB y = false := by simp [cntB]; omega
                    simp [corB, this]
                  have her := Lib.hid (hbad.out hb)
                  have hd1 : decide (y.cnt < 1) = true := by simpa using hc1
                  go_wp2_with fail
                  go_ret
                  exact ⟨ret_int her.out.symm, (by repeat (first | exact Ext.refl _ | assumption | refine Ext.drew ?_ | refine Ext.drewN ?_ _ | refine Ext.alloc ?_ _ | refine Ext.trans ?_ (by assumption)))⟩
                by_cases hc2 : 2147483647 < y.cnt
                · have hb : corB W y = false := by
                    have : cntB y = false := by simp [cntB]; omega
                    simp [corB, this]
                  have her := Lib.hid (hbad.out hb)
                  have hd1 : decide (y.cnt < 1) = false := by simpa using hc1
                  have hd2 : decide (2147483647 < y.cnt) = true := by simpa using hc2
                  go_wp2_with fail
                  go_ret
                  exact ⟨ret_int her.out.symm, (by repeat (first | exact Ext.refl _ | assumption | refine Ext.drew ?_ | refine Ext.drewN ?_ _ | refine Ext.alloc ?_ _ | refine Ext.trans ?_ (by assumption)))⟩
                have hcn : cntB y = true := by simp [cntB]; omega
                have hd1 : decide (y.cnt < 1) = false := by simpa using hc1
                have hd2 : decide (2147483647 < y.cnt) = false := by simpa using hc2
                cases hall3 : y.x.all Cl.ok
                · have hb : corB W y = false := by simp [corB, hall3]
                  have hnt : (y.x.any fun y => !y.ok) = true := by rw [all_not_any, hall3]; rfl
                  have her := Lib.hid (hbad.out hb)
                  go_wp2_with fail
                  refine (cbool (containsCF_any y.a y.n y.cap y.x _ (hyr.ext (Ext.alloc1 _ _))) hnt).mono ?_
                  rintro e w2 ⟨rfl, hx2⟩
                  go_wp2_with fail
                  go_ret
                  exact ⟨ret_int her.out.symm, (by repeat (first | exact Ext.refl _ | assumption | refine Ext.drew ?_ | refine Ext.drewN ?_ _ | refine Ext.alloc ?_ _ | refine Ext.trans ?_ (by assumption)))⟩
                · have hnt : (y.x.any fun y => !y.ok) = false := by rw [all_not_any, hall3]; rfl
                  have hgd := hgood.out (by simp [corB, hWy.out, hcn, hall3])
                  rw [hWz.out] at hgd
                  replace hgd := Lib.hid hgd
                  clear hall3
                  go_wp2_with fail
                  refine (cbool (containsCF_any y.a y.n y.cap y.x _ (hyr.ext (Ext.alloc1 _ _))) hnt).mono ?_
                  rintro e w2 ⟨rfl, hx2⟩
                  go_wp2_with fail
                  (first | exact ⟨⟨j + 1, _, by omega, by go_num, rfl, hxj.trans ((Ext.alloc1 _ _).trans hx2), hgd.out⟩, (by simp [intOf]; omega)⟩ | (go_roundw; case rel => exact ⟨j + 1, _, by omega, by go_num, rfl, hxj.trans ((Ext.alloc1 _ _).trans hx2), hgd.out⟩; case measure => exact (by simp [intOf]; omega)))
              · subst hwm
                clear hdn hfl hinj hyl
                by_cases hWy : y.n = W
                · have hdw : ((y.n : Int) != (W : Int)) = false := by simp [hWy]
                  have hdw0 : decide ((W : Int) < 0) = false := by simp
                  replace hWy := Lib.hid hWy
                  by_cases hc1 : y.cnt < 1
                  · have hb : corB W y = false := by
                      have : cntB y = false := by simp [cntB]; omega
                      simp [corB, this]
                    have her := Lib.hid (hbad.out hb)
                    have hd1 : decide (y.cnt < 1) = true := by simpa using hc1
                    go_wp2_with fail
                    go_ret
                    exact ⟨ret_int her.out.symm, (by repeat (first | exact Ext.refl _ | assumption | refine Ext.drew ?_ | refine Ext.drewN ?_ _ | refine Ext.alloc ?_ _ | refine Ext.trans ?_ (by assumption)))⟩
                  by_cases hc2 : 2147483647 < y.cnt
                  · have hb : corB W y = false := by
                      have : cntB y = false := by simp [cntB]; omega
                      simp [corB, this]
                    have her := Lib.hid (hbad.out hb)
                    have hd1 : decide (y.cnt < 1) = false := by simpa using hc1
                    have hd2 : decide (2147483647 < y.cnt) = true := by simpa using hc2
                    go_wp2_with fail
                    go_ret
                    exact ⟨ret_int her.out.symm, (by repeat (first | exact Ext.refl _ | assumption | refine Ext.drew ?_ | refine Ext.drewN ?_ _ | refine Ext.alloc ?_ _ | refine Ext.trans ?_ (by assumption)))⟩
                  have hcn : cntB y = true := by simp [cntB]; omega
                  have hd1 : decide (y.cnt < 1) = false := by simpa using hc1
                  have hd2 : decide (2147483647 < y.cnt) = false := by simpa using hc2
                  cases hall3 : y.x.all Cl.ok
                  · have hb : corB W y = false := by simp [corB, hall3]
                    have hnt : (y.x.any fun y => !y.ok) = true := by rw [all_not_any, hall3]; rfl
                    have her := Lib.hid (hbad.out hb)
                    go_wp2_with fail
                    refine (cbool (containsCF_any y.a y.n y.cap y.x _ (hyr.ext (Ext.alloc1 _ _))) hnt).mono ?_
                    rintro e w2 ⟨rfl, hx2⟩
                    go_wp2_with fail
                    go_ret
                    exact ⟨ret_int her.out.symm, (by repeat (first | exact Ext.refl _ | assumption | refine Ext.drew ?_ | refine Ext.drewN ?_ _ | refine Ext.alloc ?_ _ | refine Ext.trans ?_ (by assumption)))⟩
                  · have hnt : (y.x.any fun y => !y.ok) = false := by rw [all_not_any, hall3]; rfl
                    have hgd := hgood.out (by simp [corB, hWy.out, hcn, hall3])
                    skip
                    replace hgd := Lib.hid hgd
                    clear hall3
                    go_wp2_with fail
                    refine (cbool (containsCF_any y.a y.n y.cap y.x _ (hyr.ext (Ext.alloc1 _ _))) hnt).mono ?_
                    rintro e w2 ⟨rfl, hx2⟩
                    go_wp2_with fail
                    (first | exact ⟨⟨j + 1, _, by omega, by go_num, rfl, hxj.trans ((Ext.alloc1 _ _).trans hx2), hgd.out⟩, (by simp [intOf]; omega)⟩ | (go_roundw; case rel => exact ⟨j + 1, _, by omega, by go_num, rfl, hxj.trans ((Ext.alloc1 _ _).trans hx2), hgd.out⟩; case measure => exact (by simp [intOf]; omega)))
                · have hdw : ((y.n : Int) != (W : Int)) = true := by simp; omega
                  have her := Lib.hid (hbad.out (by simp [corB, hWy]))
                  go_wp2_with fail
                  go_ret
                  exact ⟨ret_int her.out.symm, (by repeat (first | exact Ext.refl _ | assumption | refine Ext.drew ?_ | refine Ext.drewN ?_ _ | refine Ext.alloc ?_ _ | refine Ext.trans ?_ (by assumption)))⟩
            · have hnew : Hid (InvW W (ls.take (i + 1)).flatten wy) := Lib.hid (by
                have h1 := hinj.out
                rw [List.take_of_length_le (i := j) (l := l) (by rw [hll.out]; omega)] at h1
                rw [take_succ_at hs.out]; simpa using h1)
              clear hinj
              go_wp2_with fail
              (first | exact ⟨⟨i + 1, wy, by omega, by go_num, rfl, hxi.trans hxj, hnew⟩, (by simp [intOf]; omega)⟩ | (go_roundw; case rel => exact ⟨i + 1, wy, by omega, by go_num, rfl, hxi.trans hxj, hnew⟩; case measure => exact (by simp [intOf]; omega)))
        · have hkm : i = m := by omega
          have hfin : chkE ls = 0 := chkE_ok h0.out (by rw [← hW.out]; intro y hy; exact hinv.out.1 y (by rw [hkm, List.take_of_length_le (by rw [hl.out]; exact Nat.le_refl _)]; exact hy))
          replace hfin := Lib.hid hfin
          replace hkm := Lib.hid hkm
          go_wp2_with fail
          go_ret
          exact ⟨ret_int hfin.out.symm, hxi⟩
end Go.Proofs.YtjfhfbobnncpkaaDoor
namespace Go.Proofs.YtjfhfbobnncpkaaDoor
open Go.RowKit Go.Shelf
def sumC : List HCo → Int
  | [] => 0
  | y :: l => y.cnt + sumC l
theorem sumC_snoc (l : List HCo) (y : HCo) : sumC (l ++ [y]) = sumC l + y.cnt := by
  induction l with
  | nil => simp [sumC]
  | cons x l ih => simp only [List.cons_append, sumC, ih]; omega
theorem sumC_bd {l : List HCo} (h : ∀ y ∈ l, cntB y = true) : 0 ≤ sumC l ∧ sumC l ≤ 2147483647 * l.length := by
  induction l with
  | nil => simp [sumC]
  | cons x l ih =>
    have h1 := ih fun y hy => h y (List.mem_cons_of_mem _ hy)
    have h2 := h x (List.mem_cons_self ..)
    simp only [cntB, Bool.and_eq_true, decide_eq_true_eq] at h2
    simp only [sumC, List.length_cons]; omega
abbrev encH (y : HCo) : Array Value := #[coV y]
/-! ### The iterator -/
/-- A list's header, and its correspondences. -/
structure HL where
  a : Option Addr
  n : Nat
  cap : Nat
  x : List HCo
def HL.enc (h : HL) : List Value := [.slice h.a h.n h.cap]
structure RdHL (w : World) (a : Option Addr) (n cap : Nat) (hs : List HL) : Prop where
  rd : RdK 1 HL.enc w a n cap hs
  ok : ∀ h ∈ hs, RdH w h.a h.n h.cap h.x
theorem RdHL.ext {w w' : World} {a : Option Addr} {n cap : Nat} {hs : List HL} (h : RdHL w a n cap hs) (hx : Ext w w') : RdHL w' a n cap hs := ⟨h.rd.ext hx, fun y hy => (h.ok y hy).ext hx⟩
theorem RdHL.at {w : World} {a : Option Addr} {n cap : Nat} {hs : List HL} (h : RdHL w a n cap hs) {i : Nat} (hi : i < n) :
    ∃ b off y, a = some ⟨b, off, none⟩ ∧ Hid (hs[i]? = some y) ∧ b < w.heap.size ∧ w.cell? ⟨b, off + i, none⟩ = some (.slice y.a y.n y.cap) ∧ RdH w y.a y.n y.cap y.x := by
  obtain ⟨b, off, x, ha, hx, hb, hc⟩ := h.rd.get hi
  exact ⟨b, off, x, ha, hx, hb, by simpa using hc 0 _ rfl, h.ok x (List.mem_of_getElem? hx.out)⟩
abbrev flatH (hv : List HL) : List HCo := (hv.map HL.x).flatten
theorem flatH_split {hv : List HL} {i j : Nat} {h : HL} {y : HCo} (hi : hv[i]? = some h) (hy : h.x[j]? = some y) : ∃ r, flatH hv = (flatH (hv.take i) ++ h.x.take j) ++ y :: r := by
  obtain ⟨r, hr⟩ := flat_split (ls := hv.map HL.x) (i := i) (l := h.x) (by simp [hi]) hy
  exact ⟨r, by rw [flatH, hr]; simp [flatH, List.map_take]⟩
set_option maxHeartbeats 1000000 in
theorem all1_in (n l Bx : Nat) (hn : 1 ≤ n) (a : Option Addr) (m cap : Nat) (hv : List HL) (J Jx : List HCo → World → Prop) (hJ : ∀ s X Y, J s X → X.grownBy Y none → J s Y)
    (hrd : ∀ s X, J s X → X.cell? ⟨Bx, 0, none⟩ = some (.slice a m cap) ∧ RdHL X a m cap hv)
    (hY : ∀ pre y X, J pre X → (pre ++ [y]) <+: flatH hv → YieldAt Fence.wide (n - 1) Tryd.prog l (encH y) X fun e Y => (e = .returned (.bool true) ∧ J (pre ++ [y]) Y) ∨ (e = .returned (.bool false) ∧ Jx (pre ++ [y]) Y))
    (W : World) (h0 : J [] W) :
    CallsIn Fence.wide n Tryd.prog 29 #[.func (.yield l) #[] #[], .pointer (some ⟨Bx, 0, none⟩)] W fun e W' => (∃ v, e = .returned v) ∧ (J (flatH hv) W' ∨ ∃ pre, Jx pre W') := by
  have hro : Fence.wide.round = none := rfl
  obtain ⟨hbox, hr0⟩ := hrd _ _ h0
  have hl := hr0.rd.len
  have hmax : m ≤ 9223372036854775807 := by have := hr0.rd.le; have := hr0.rd.most; unfold maxLen at this; omega
  clear hr0
  replace hl := Lib.hid hl
  refine callsIn_of_wp Tryd.func29 rfl trivial ?_ hro
  simp only [Tryd.ntmps29, List.size_toArray, List.length_cons, List.length_nil, Nat.reduceAdd, Nat.reduceSub, Array.replicate_succ, Array.replicate_zero, List.push_toArray, List.append_toArray, List.nil_append, List.cons_append]
  gi_wp2
  gi_loopw [9] (fun i wr => ∃ k : Nat, k ≤ m ∧ i = .int .i64 k ∧ J (flatH (hv.take k)) wr) (fun i _ => m - (intOf i).toNat)
  case atStart => exact ⟨0, Nat.zero_le _, rfl, h0⟩
  case round =>
    obtain ⟨k, hk, rfl, hJ1⟩ := hrel
    by_cases hlt : k < m
    · obtain ⟨b, off, h, rfl, hs, hb, hc0, hrl⟩ := (hrd _ _ hJ1).2.at hlt
      have hll := hrl.rd.len
      have hlb := hrl.rd.le
      have hlm := hrl.rd.most
      unfold maxLen at hlm
      replace hll := Lib.hid hll
      gi_wp2
      gi_loopw [15] (fun i wr => ∃ j : Nat, j ≤ h.n ∧ i = .int .i64 j ∧ J (flatH (hv.take k) ++ h.x.take j) wr) (fun i _ => h.n - (intOf i).toNat)
      case atStart => exact ⟨0, Nat.zero_le _, rfl, by simpa using hJ1⟩
      case round =>
        obtain ⟨j, hj, rfl, hJ2⟩ := hrel
        by_cases hlj : j < h.n
        · obtain ⟨b2, off2, y, ha2, hy, hb2, hd0, hd1, _⟩ := ((hrd _ _ hJ2).2.ok h (List.mem_of_getElem? hs.out)).at hlj
          have hpre : (flatH (hv.take k) ++ h.x.take j) ++ [y] <+: flatH hv := by
            obtain ⟨r, hr⟩ := flatH_split hs.out hy.out
            exact ⟨r, by rw [hr]; simp⟩
          have hJ3 : J (flatH (hv.take k) ++ h.x.take j) (wr.alloc (.cells #[.slice y.a y.n y.cap, .int .i64 y.cnt] 45)) := hJ _ _ _ hJ2 (World.grownBy_alloc _ _ _)
          have hnew : (flatH (hv.take k) ++ h.x.take j) ++ [y] = flatH (hv.take k) ++ h.x.take (j + 1) := by rw [take_succ_at hy.out, List.append_assoc]
          replace hnew := Lib.hid hnew
          rw [ha2]
          gi_wp2
          generalize (wr.alloc (.cells #[.slice y.a y.n y.cap, .int .i64 y.cnt] 45)) = wz at hJ3 ⊢
          obtain ⟨fn, tmps, assign, body, hyl, hR⟩ := hY _ y wz hJ3 hpre
          rw [show Sem.run Tryd.prog (Instr.yield l #[coV y]) wz = _ from hyl]
          gi_wp2
          refine hR.mono ?_
          rintro e W3 (⟨rfl, hJ4⟩ | ⟨rfl, hJx4⟩)
          · rw [hnew.out] at hJ4
            gi_wp2
            (first | exact ⟨⟨j + 1, by omega, by go_num, hJ4⟩, (by simp [intOf]; omega)⟩ | (go_roundw; case rel => exact ⟨j + 1, by omega, by go_num, hJ4⟩; case measure => exact (by simp [intOf]; omega)))
          · gi_wp2
            refine bodyPost_ret (results_none rfl _ _ _) rfl ?_
            exact ⟨⟨_, rfl⟩, .inr ⟨_, hJx4⟩⟩
        · have hnew : flatH (hv.take k) ++ h.x.take j = flatH (hv.take (k + 1)) := by
            rw [List.take_of_length_le (i := j) (l := h.x) (by rw [hll.out]; omega), take_succ_at hs.out]; simp [flatH]
          rw [hnew] at hJ2
          clear hnew
          gi_wp2
          (first | exact ⟨⟨k + 1, by omega, by go_num, hJ2⟩, (by simp [intOf]; omega)⟩ | (go_roundw; case rel => exact ⟨k + 1, by omega, by go_num, hJ2⟩; case measure => exact (by simp [intOf]; omega)))
    · have hkm : k = m := by omega
      have hfin : flatH (hv.take k) = flatH hv := by rw [List.take_of_length_le (by rw [hl.out]; omega)]
      rw [hfin] at hJ1
      gi_wp2
      go_end0
      exact ⟨⟨_, rfl⟩, .inl hJ1⟩
attribute [local go_sem] Oper.semAt_some
theorem all_in (n : Nat) (a : Option Addr) (m cap : Nat) (w : World) :
    CallsIn Fence.wide n Tryd.prog 14 #[.slice a m cap] w fun e w' => e = .returned (.func (.func 29) #[] #[.pointer (some ⟨w.heap.size, 0, none⟩)]) ∧ w' = w.alloc (.cells #[.slice a m cap] 74) := by
  refine callsIn_of_wp Tryd.func14 rfl trivial ?_ rfl
  simp only [Tryd.ntmps14, List.size_toArray, List.length_cons, List.length_nil, Nat.reduceAdd, Nat.reduceSub, Array.replicate_succ, Array.replicate_zero, List.push_toArray, List.append_toArray, List.nil_append, List.cons_append]
  gi_wp2
  go_ret
  exact ⟨rfl, rfl⟩
theorem rdl_one {w : World} {a : Option Addr} {m cap : Nat} {l : List HCo} (hr : RdH w a m cap l) : RdL (w.alloc (.cells #[.slice a m cap] 37)) (some ⟨w.heap.size, 0, none⟩) 1 1 [l] :=
  RdV.lit (R := RH) (W := w.alloc (.cells #[.slice a m cap] 37)) (vs := [.slice a m cap]) (ws := [l]) (b := w.heap.size) (by simp)
    (fun j u hu => by
      have := cell_new_list w [.slice a m cap] 37 j u hu
      unfold Addr.add at this; split at this
      · rename_i h0; subst h0; exact this
      · simpa using this) rfl (by simp [maxLen])
    (fun i v x hv hx => by
      cases i with
      | zero => simp at hv hx; subst hv; subst hx; exact ⟨a, m, cap, rfl, hr.ext (Ext.alloc1 _ _)⟩
      | succ i => simp at hv) rfl
theorem chkE_zero {l : List HCo} (h : chkE [l] = 0) : l.length ≤ 4096 ∧ ∀ y ∈ l, cntB y = true := by
  unfold chkE at h
  split at h
  · cases h
  · rename_i h1
    split at h
    · rename_i h2
      simp [manyB] at h1
      refine ⟨h1.1, fun y hy => ?_⟩
      have := List.all_eq_true.1 h2 y (by simpa using hy)
      simp only [corB, Bool.and_eq_true] at this
      exact this.2.1
    · cases h
set_option maxHeartbeats 2000000 in
set_option maxRecDepth 20000 in
theorem total_any (a : Option Addr) (m cap : Nat) (l : List HCo) (w : World) (hr : RdH w a m cap l) :
    Calls Tryd.prog 7 #[.slice a m cap] w fun e w' => e = .returned (.tuple #[.int .i64 (if chkE [l] = 0 then sumC l else 0), .int .i64 (chkE [l])]) ∧ Ext w w' := by
  have h1 : 1 ≤ 9 := by omega
  refine (callsIn_wide (n := 9)).1 ?_
  refine callsIn_of_wp_marks Tryd.func7 rfl trivial ?_ rfl
  simp only [Tryd.ntmps7, List.size_toArray, List.length_cons, List.length_nil, Nat.reduceAdd, Nat.reduceSub, Array.replicate_succ, Array.replicate_zero, List.push_toArray, List.append_toArray, List.nil_append, List.cons_append]
  have hck := ccheck_any _ 1 1 [l] _ (rdl_one hr)
  by_cases h0 : chkE [l] = 0
  · obtain ⟨hlen, hcnt⟩ := chkE_zero h0
    replace hck := cint hck h0
    gi_wp2
    refine ⟨trivial, ?_⟩
    gi_at_call 13
    refine (callsIn_wide.2 hck).mono ?_
    rintro e w1 ⟨rfl, hx1⟩
    have bN : Boxed ((w1.alloc (.cells #[.int .i64 0] 2)).alloc (.cells #[.slice a m cap] 37)) w1.heap.size 2 (.int .i64 0) := (Boxed.new w1 _ _).alloc _
    have hz2 : ((w1.alloc (.cells #[.int .i64 0] 2)).alloc (.cells #[.slice a m cap] 37)).heap.size = w1.heap.size + 2 := by simp
    have hx2 : Ext w1 ((w1.alloc (.cells #[.int .i64 0] 2)).alloc (.cells #[.slice a m cap] 37)) := (by repeat (first | exact Ext.refl _ | assumption | refine Ext.drew ?_ | refine Ext.drewN ?_ _ | refine Ext.alloc ?_ _ | refine Ext.trans ?_ (by assumption)))
    have bL : ((w1.alloc (.cells #[.int .i64 0] 2)).alloc (.cells #[.slice a m cap] 37)).heap[w1.heap.size + 1]? = some (.cells #[.slice a m cap] 37) := by have := World.alloc_heap_new (w1.alloc (.cells #[.int .i64 0] 2)) (.cells #[.slice a m cap] 37); rwa [World.size_alloc] at this
    gi_wp2
    generalize ((w1.alloc (.cells #[.int .i64 0] 2)).alloc (.cells #[.slice a m cap] 37)) = w2 at *
    refine ⟨trivial, ?_⟩
    gi_at_call 14
    refine (all_in _ _ _ _ _).mono ?_
    rintro e w3 ⟨rfl, hw3⟩
    have bX : Boxed w3 w2.heap.size 74 (.slice (some ⟨w1.heap.size + 1, 0, none⟩) 1 1) := by rw [hw3]; exact Boxed.new _ _ _
    have hx3 : Ext w2 w3 := by rw [hw3]; exact Ext.alloc1 _ _
    have hz3 : w3.heap.size = w2.heap.size + 1 := by rw [hw3]; simp
    replace bN : Boxed w3 w1.heap.size 2 (.int .i64 0) := (Below.block hx3.bel _ (by omega)).trans bN
    replace bL := (Below.block hx3.bel (w1.heap.size + 1) (by omega)).trans bL
    clear hw3
    have hx13 := hx2.trans hx3
    have hz23 : w3.heap.size = w1.heap.size + 3 := by omega
    have hz22 : w2.heap.size = w1.heap.size + 2 := hz2
    replace hz3 := Lib.hid hz3
    replace hz2 := Lib.hid hz2
    replace hz23 := Lib.hid hz23
    replace hz22 := Lib.hid hz22
    gi_wp2
    refine wpIn_range_own2 rfl h1 (gf := 29) (lb := #[.pointer (some ⟨w2.heap.size, 0, none⟩)]) rfl trivial (enters_of Tryd.func29 (by kernel_rfl) rfl)
      (encs := encH) (fun _ => rfl) (fun _ => False) (fun r hr => hr.elim) l
      (fun pre W => (Boxed W w1.heap.size 2 (.int .i64 (sumC pre)) ∧ Boxed W w2.heap.size 74 (.slice (some ⟨w1.heap.size + 1, 0, none⟩) 1 1)) ∧ W.heap[w1.heap.size + 1]? = some (.cells #[.slice a m cap] 37) ∧ Ext w1 W)
      (fun s X Y row hs hg hr => by
        have out : ∀ j, j < w3.heap.size → some j ≠ row := fun j hj e => by rcases hr j e.symm with h | h <;> omega
        have e3 := hz23.out
        have e2 := hz22.out
        exact ⟨⟨hs.1.1.kept hg (out _ (by omega)), hs.1.2.kept hg (out _ (by omega))⟩, (hg.block _ (Array.getElem?_eq_some_iff.1 hs.2.1).1 (out _ (by omega))).trans hs.2.1, hs.2.2.grown hg fun k e => by
          rcases hr _ e with h | h
          · exact h.elim
          · omega⟩)
      ⟨⟨bN, bX⟩, bL, hx13⟩ (fun _ _ _ => False) (fun _ _ _ _ _ hs _ _ => hs)
      (fun lp J Jx W hB hJ0 hJ hJx hI hY => by
        have := all1_in 8 lp w2.heap.size (by omega) (some ⟨w1.heap.size + 1, 0, none⟩) 1 1 [⟨a, m, cap, l⟩] J Jx (fun s X Y hs hg => hJ s X Y none hs hg (fun r e => by cases e))
          (fun s X hs => by
            have hh := hI s X hs
            have hlt := (Array.getElem?_eq_some_iff.1 hh.2.1).1
            refine ⟨hh.1.2.cell, ⟨⟨rfl, Nat.le_refl _, by simp [maxLen], (fun h => by cases h), fun _ => ⟨w1.heap.size + 1, 0, rfl, hlt, fun i x hx j u hu => ?_⟩⟩, fun h hm => ?_⟩⟩
            · cases i with
              | zero =>
                simp at hx; subst hx
                cases j with
                | zero => simp [HL.enc] at hu; subst hu; simp [World.cell?, hh.2.1]
                | succ j => simp [HL.enc] at hu
              | succ i => simp at hx
            · simp at hm; subst hm; exact hr.ext (Ext.trans (show Ext w w1 from (by repeat (first | exact Ext.refl _ | assumption | refine Ext.drew ?_ | refine Ext.drewN ?_ _ | refine Ext.alloc ?_ _ | refine Ext.trans ?_ (by assumption)))) hh.2.2))
          (fun pre y X hp hpre => (hY pre y X hp (by simpa [flatH] using hpre)).mono (fun e Y h => h.elim (fun h => .inl ⟨h.1, h.2.1⟩) (fun h => .inr h))) W hJ0
        simpa [flatH] using this)
      (fun y a' W => ∃ Bx, w3.heap.size ≤ Bx ∧ W.heap[Bx]? = some (.cells #[.slice y.a y.n y.cap, .int .i64 y.cnt] 45) ∧ a' = { tmps := #[.slice a m cap, undef, .int .i64 0, .int .i64 0, .int .i64 0, .pointer (some ⟨w1.heap.size, 0, none⟩), .pointer (some ⟨Bx, 0, none⟩), .slice a m cap, .slice (some ⟨w.heap.size, 0, none⟩) 1 1, .int .i64 0, .int .i64 0, .bool false, undef, .slice a m cap, .slice (some ⟨w1.heap.size + 1, 0, none⟩) 1 1, .func (.func 29) #[] #[.pointer (some ⟨w2.heap.size, 0, none⟩)], coV y, undef, undef, undef, undef, undef], defers := [] })
      (fun x a' s X Y row hs hg hr => by
        obtain ⟨Bx, h1, h2, h3⟩ := hs
        refine ⟨Bx, h1, (hg.block Bx (Array.getElem?_eq_some_iff.1 h2).1 (fun e => ?_)).trans h2, h3⟩
        rcases hr Bx e.symm with h | ⟨_, o, ho, hc⟩
        · exact h
        · rw [h2] at ho; cases ho; cases hc)
      ?assign ?body ?done ?stop
    case assign =>
      rintro lp pre y W K ⟨⟨hb1, hb2⟩, hb3, hb4⟩ hK
      have hlt := hb2.lt
      have hle : w1.heap.size + 1 < W.heap.size ∧ w3.heap.size ≤ W.heap.size := by have e3 := hz23.out; have e2 := hz22.out; omega
      replace hle := Lib.hid hle
      clear hlt
      gi_wp2
      exact hK _ _ ((KeepsOthers.alloc _ _).from _) (fun r h => h.elim) ⟨⟨hb1.alloc _, hb2.alloc _⟩, (Below.heap_alloc W _ (w1.heap.size + 1) hle.out.1).trans hb3, hb4.trans (Ext.alloc1 _ _)⟩ ⟨W.heap.size, hle.out.2, World.alloc_heap_new W _, rfl⟩
    case body =>
      rintro lp pre y a' W ⟨⟨hb1, hb2⟩, hb3, hb4⟩ ⟨Bx, hBx, hbx, rfl⟩ hpre
      have hcp : ∀ y' ∈ pre ++ [y], cntB y' = true := fun y' hy' => hcnt y' (hpre.subset hy')
      have hlp : (pre ++ [y]).length ≤ 4096 := Nat.le_trans hpre.length_le hlen
      have hbd := sumC_bd hcp
      have hsn := sumC_snoc pre y
      have e3 := hz23.out
      have e2 := hz22.out
      have hc1 := hb1.cell
      have hf1 := hb1.frozen
      have hc2 : W.cell? ⟨Bx, 0, none⟩ = some (.slice y.a y.n y.cap) := by simp [World.cell?, hbx]
      have hc3 : W.cell? ⟨Bx, 1, none⟩ = some (.int .i64 y.cnt) := by simp [World.cell?, hbx]
      have hwr : IntKind.i64.wrap (sumC pre + y.cnt) = sumC (pre ++ [y]) := by rw [← hsn]; exact IntWalk.i64_in _ (by omega)
      have hg := grownBy_setCell' W w1.heap.size (.int .i64 (IntKind.i64.wrap (sumC pre + y.cnt)))
      have hk2 := KeepsFrom.of_grownBy (B := w3.heap.size) hg (fun j e => by cases e; omega)
      have hb1' := hb1.set (.int .i64 (IntKind.i64.wrap (sumC pre + y.cnt)))
      rw [hwr] at hg hk2 hb1'
      have hb2' := hb2.kept hg (fun e => by have := Option.some.inj e; omega)
      have hb3' := (hg.block (w1.heap.size + 1) (Array.getElem?_eq_some_iff.1 hb3).1 (fun e => by have := Option.some.inj e; omega)).trans hb3
      have hb4' := hb4.grown hg (fun k e => by cases e; exact Nat.le_refl _)
      have fin := Lib.hid (And.intro hk2 (And.intro (⟨⟨hb1', hb2'⟩, hb3', hb4'⟩ : (_ ∧ _) ∧ _ ∧ _) trivial))
      clear hg hk2 hb1' hb2' hb3' hb4' hcp hlp hbd hsn e2 e3
      gi_wp2
      exact ⟨fin.out.1, fun r h => h.elim, fin.out.2.1⟩
    case done =>
      rintro D W hD ⟨⟨hb1, hb2⟩, hb3, hb4⟩ hK
      have hcs := hb1.cell
      gi_wp2
      refine ⟨by simp, .inl ⟨_, _, rfl, run_takeDeferred hK, ?_⟩⟩
      refine ⟨_, results_tmp2 rfl _ _ _, ?_, ⟨(show Ext w W from (show Ext w w1 from (by repeat (first | exact Ext.refl _ | assumption | refine Ext.drew ?_ | refine Ext.drewN ?_ _ | refine Ext.alloc ?_ _ | refine Ext.trans ?_ (by assumption)))).trans hb4).bel.trans (belowK_b (w := w) (Nat.le_refl _) W D _ _ (by have := hz23.out; have := hx1.le; simp at this; omega) hK rfl rfl)⟩⟩
      rfl
    case stop =>
      rintro D c pre W _ h _
      exact h.elim
  · have hd : (chkE [l] != 0) = true := by simpa using h0
    gi_wp2
    refine ⟨trivial, ?_⟩
    gi_at_call 13
    refine (callsIn_wide.2 hck).mono ?_
    rintro e w1 ⟨rfl, hx1⟩
    gi_wp2
    exact ⟨_, results_tmp2 rfl _ _ _, rfl, (by repeat (first | exact Ext.refl _ | assumption | refine Ext.drew ?_ | refine Ext.drewN ?_ _ | refine Ext.alloc ?_ _ | refine Ext.trans ?_ (by assumption)))⟩
end Go.Proofs.YtjfhfbobnncpkaaDoor
