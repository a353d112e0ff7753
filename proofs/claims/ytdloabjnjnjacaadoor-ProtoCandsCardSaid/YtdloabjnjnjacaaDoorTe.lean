/-
  Leaves of a tree.
-/
import Derived.Test.YtdloabjnjnjacaaDoorTd
namespace Go.Proofs.YtdloabjnjnjacaaDoor
open Go.RowKit
/-- The leaves up to node k. -/
def leafTo (ts : List Nd) (k : Nat) : List Int := ((List.range k).filter fun v => decide (kidsTo ts ts.length v = [])).map fun v : Nat => (v : Int)
def leafL (ts : List Nd) : List Int := leafTo ts ts.length
theorem leafTo_succ (ts : List Nd) (k : Nat) : leafTo ts (k + 1) = leafTo ts k ++ if kidsTo ts ts.length k = [] then [(k : Int)] else [] := by
  unfold leafTo
  rw [List.range_succ, List.filter_append, List.map_append]
  congr 1
  by_cases h : kidsTo ts ts.length k = []
  · rw [if_pos h, List.filter_cons, if_pos (by simpa using h)]; rfl
  · rw [if_neg h, List.filter_cons, if_neg (by simpa using h)]; rfl
theorem leafTo_len (ts : List Nd) (k : Nat) : (leafTo ts k).length ≤ k := by
  unfold leafTo; rw [List.length_map]; have := List.length_filter_le (fun v => decide (kidsTo ts ts.length v = [])) (List.range k); simpa using this
/-- A list of integers of the call's own, and an error. -/
def RetIE (xs : List Int) (err : Int) (w : World) (e : Ending) (w' : World) : Prop := ∃ v, e = .returned (.tuple #[v, .int .i64 err]) ∧ OwnI w.heap.size 3 w' v xs ∧ Ext w w'
def RetI (xs : List Int) (w : World) (e : Ending) (w' : World) : Prop := ∃ v, e = .returned v ∧ OwnI w.heap.size 3 w' v xs ∧ Ext w w'
theorem RetIE.rd {P : Program} {f : FuncId} {args : Array Value} {w : World} {xs : List Int} {err err' : Int} (h : Calls P f args w (RetIE xs err w)) (he : err = err') :
    Calls P f args w fun e w' => ∃ a n cap, n = xs.length ∧ e = .returned (.tuple #[.slice a n cap, .int .i64 err']) ∧ RdI w' a n cap xs ∧ Ext w w' :=
  h.mono fun e w' ⟨v, h1, ho, hx⟩ => by
    obtain ⟨a, n, cap, hn, rfl, hr⟩ := OwnK.rdn I64.len ho
    exact ⟨a, n, cap, hn, by rw [h1, he], hr, hx⟩
theorem leaves_any (a : Option Addr) (n cap : Nat) (ts : List Nd) (w : World) (hr : RdN w a n cap ts) (ht : treeB ts = true) :
    Calls Tryd.prog 57 #[.slice a n cap] w (RetI (leafL ts) w) := by
  have hl := hr.rd.len
  have hn1 := treeB_len ht
  rw [hl] at hn1
  replace hl := Lib.hid hl
  go_enter Tryd.func57, Tryd.ntmps57
  go_wp2_with fail
  refine (families_any a n cap ts _ hr ht).mono ?_
  rintro e w1 ⟨G, hd, rfl, hF, hx1⟩
  go_wp2_with fail
  go_loopw [3, 9] (fun ov i wr => ∃ k : Nat, k ≤ n ∧ i = .int .i64 k ∧ Ext w1 wr ∧ OwnI w1.heap.size 3 wr ov (leafTo ts k)) (fun _ i _ => n - (intOf i).toNat)
  case atStart => exact ⟨0, Nat.zero_le _, rfl, Ext.refl _, OwnK.nil _ _ _⟩
  case round =>
    obtain ⟨k, hk, rfl, hx, hown⟩ := hrel
    by_cases hlt : k < n
    · have hFr := hF.ext hx
      have hgk := hFr.head k hlt
      obtain ⟨ak, mk, ck, hmk, hvk, hrk⟩ := OwnK.rdn I64.len (hFr.own k hlt)
      rw [hvk] at hgk
      clear hvk hrk hFr
      have hlen := leafTo_len ts k
      have hsu := leafTo_succ ts k
      rw [hl.out] at hsu
      by_cases h0 : kidsTo ts n k = []
      · have hz : ((mk : Int) == 0) = true := by rw [hmk, h0]; rfl
        rw [if_pos h0] at hsu
        replace hsu := Lib.hid hsu
        replace hmk := Lib.hid hmk
        clear h0
        go_wp2_with (at_builtin; refine wp_app1 w1 wr (k : Int) rfl _ _ 52 rfl 3 Tryd.underlying52 info_int rfl (by decide) _ _ rfl hown hx rfl (I64.len _) (I64.one _) (by omega) (by unfold maxLen; omega) ?_; intro v2 w2 o2 x2 _)
        (first | exact ⟨⟨k + 1, by omega, by go_num, x2, by rw [hsu.out]; exact o2⟩, (by simp [intOf]; omega)⟩ | (go_roundw; case rel => exact ⟨k + 1, by omega, by go_num, x2, by rw [hsu.out]; exact o2⟩; case measure => exact (by simp [intOf]; omega)))
      · have hz : ((mk : Int) == 0) = false := by
          have : mk ≠ 0 := fun e => h0 (List.eq_nil_of_length_eq_zero (by rw [← hmk, e]))
          simpa using this
        rw [if_neg h0, List.append_nil] at hsu
        replace hsu := Lib.hid hsu
        replace hmk := Lib.hid hmk
        clear h0
        go_wp2_with fail
        (first | exact ⟨⟨k + 1, by omega, by go_num, hx, by rw [hsu.out]; exact hown⟩, (by simp [intOf]; omega)⟩ | (go_roundw; case rel => exact ⟨k + 1, by omega, by go_num, hx, by rw [hsu.out]; exact hown⟩; case measure => exact (by simp [intOf]; omega)))
    · have hkn : k = n := by omega
      subst hkn
      go_wp2_with fail
      go_ret
      exact ⟨_, rfl, by unfold leafL; rw [hl.out]; exact OwnK.base hown hx1.le, hx1.trans hx⟩
def leavesR (ts : List Nd) : List Int := if treeB ts = true then leafL ts else []
theorem treeE_zero {ts : List Nd} (h : treeB ts = true) : treeE ts = 0 := by simp [treeE, h]
theorem treeE_not {ts : List Nd} (h : treeB ts = false) : treeE ts = 16 := by simp [treeE, h]
theorem tleaves_any (a : Option Addr) (n cap : Nat) (ts : List Nd) (w : World) (hr : RdN w a n cap ts) :
    Calls Tryd.prog 25 #[.slice a n cap] w (RetIE (leavesR ts) (treeE ts) w) := by
  cases ht : treeB ts
  · have hR : leavesR ts = [] := by simp [leavesR, ht]
    have hE := treeE_not ht
    rw [hR, hE]
    go_enter Tryd.func25, Tryd.ntmps25
    go_wp2_with fail
    refine (cint (check_any a n cap ts _ hr) hE).mono ?_
    rintro e w1 ⟨rfl, hx1⟩
    replace hE := Lib.hid hE
    replace hR := Lib.hid hR
    go_wp2_with fail
    go_ret2
    exact ⟨_, rfl, OwnK.nil _ _ _, hx1⟩
  · have hR : leavesR ts = leafL ts := by simp [leavesR, ht]
    have hE := treeE_zero ht
    rw [hR, hE]
    go_enter Tryd.func25, Tryd.ntmps25
    go_wp2_with fail
    refine (cint (check_any a n cap ts _ hr) hE).mono ?_
    rintro e w1 ⟨rfl, hx1⟩
    replace hE := Lib.hid hE
    replace hR := Lib.hid hR
    go_wp2_with fail
    refine (leaves_any a n cap ts _ (hr.ext hx1) ht).mono ?_
    rintro e w2 ⟨v, rfl, ho, hx2⟩
    go_wp2_with fail
    go_ret2
    exact ⟨_, rfl, OwnK.base ho hx1.le, hx1.trans hx2⟩
/-! ### The reference's -/
theorem rchildren_any (a : Option Addr) (n cap : Nat) (ts : List Nd) (v : Nat) (w : World) (hr : RdN w a n cap ts) (ht : treeB ts = true) :
    Calls Tryd.prog 104 #[.slice a n cap, .int .i64 v] w (RetI (kidsTo ts n v) w) := by
  have hl := hr.rd.len
  have hn1 := treeB_len ht
  rw [hl] at hn1
  replace hl := Lib.hid hl
  go_enter Tryd.func104, Tryd.ntmps104
  go_wp2_with fail
  go_loopw [5, 6] (fun ov i wr => ∃ k : Nat, k ≤ n ∧ i = .int .i64 k ∧ Ext w wr ∧ OwnI w.heap.size 3 wr ov (kidsTo ts k v)) (fun _ i _ => n - (intOf i).toNat)
  case atStart => exact ⟨0, Nat.zero_le _, rfl, Ext.refl _, OwnK.nil _ _ _⟩
  case round =>
    obtain ⟨k, hk, rfl, hx, hown⟩ := hrel
    by_cases hlt : k < n
    · obtain ⟨b, off, x, rfl, hs, hb, hc0, hc1, hsz⟩ := (hr.ext hx).nd hlt
      have hlen := kidsTo_len ts k v
      have hsu := kidsTo_succ ts k v
      rw [hs.out] at hsu
      simp only [Option.map_some, Option.some.injEq] at hsu
      by_cases h0 : x.par = (v : Int)
      · have hz : (x.par == (v : Int)) = true := by simpa using h0
        have hk0 : 0 < k := by
          rcases Nat.eq_zero_or_pos k with e | e
          · subst e; have := treeB_root ht hs.out; omega
          · exact e
        rw [if_pos ⟨hk0, h0⟩] at hsu
        replace hsu := Lib.hid hsu
        clear h0
        go_wp2_with (at_builtin; refine wp_app1 w wr (k : Int) rfl _ _ 52 rfl 3 Tryd.underlying52 info_int rfl (by decide) _ _ rfl hown hx rfl (I64.len _) (I64.one _) (by omega) (by unfold maxLen; omega) ?_; intro v2 w2 o2 x2 _)
        (first | exact ⟨⟨k + 1, by omega, by go_num, x2, by rw [hsu.out]; exact o2⟩, (by simp [intOf]; omega)⟩ | (go_roundw; case rel => exact ⟨k + 1, by omega, by go_num, x2, by rw [hsu.out]; exact o2⟩; case measure => exact (by simp [intOf]; omega)))
      · have hz : (x.par == (v : Int)) = false := by simpa using h0
        rw [if_neg (fun h => h0 h.2), List.append_nil] at hsu
        replace hsu := Lib.hid hsu
        clear h0
        go_wp2_with fail
        (first | exact ⟨⟨k + 1, by omega, by go_num, hx, by rw [hsu.out]; exact hown⟩, (by simp [intOf]; omega)⟩ | (go_roundw; case rel => exact ⟨k + 1, by omega, by go_num, hx, by rw [hsu.out]; exact hown⟩; case measure => exact (by simp [intOf]; omega)))
    · have hkn : k = n := by omega
      subst hkn
      go_wp2_with fail
      go_ret
      exact ⟨_, rfl, hown, hx⟩
theorem rleaves_any (a : Option Addr) (n cap : Nat) (ts : List Nd) (w : World) (hr : RdN w a n cap ts) :
    Calls Tryd.prog 79 #[.slice a n cap] w (RetIE (leavesR ts) (treeE ts) w) := by
  cases ht : treeB ts
  · have hR : leavesR ts = [] := by simp [leavesR, ht]
    have hE := treeE_not ht
    rw [hR, hE]
    go_enter Tryd.func79, Tryd.ntmps79
    go_wp2_with fail
    refine (cint (rtcheck_any a n cap ts _ hr) hE).mono ?_
    rintro e w1 ⟨rfl, hx1⟩
    replace hE := Lib.hid hE
    replace hR := Lib.hid hR
    go_wp2_with fail
    go_ret2
    exact ⟨_, rfl, OwnK.nil _ _ _, hx1⟩
  · have hR : leavesR ts = leafL ts := by simp [leavesR, ht]
    have hE := treeE_zero ht
    have hl := hr.rd.len
    have hn1 := treeB_len ht
    rw [hl] at hn1
    rw [hR, hE]
    replace hl := Lib.hid hl
    go_enter Tryd.func79, Tryd.ntmps79
    go_wp2_with fail
    refine (cint (rtcheck_any a n cap ts _ hr) hE).mono ?_
    rintro e w1 ⟨rfl, hx1⟩
    replace hE := Lib.hid hE
    replace hR := Lib.hid hR
    go_wp2_with fail
    go_loopw [5, 6] (fun ov i wr => ∃ k : Nat, k ≤ n ∧ i = .int .i64 k ∧ Ext w wr ∧ OwnI w.heap.size 3 wr ov (leafTo ts k)) (fun _ i _ => n - (intOf i).toNat)
    case atStart => exact ⟨0, Nat.zero_le _, rfl, hx1, OwnK.nil _ _ _⟩
    case round =>
      obtain ⟨k, hk, rfl, hx, hown⟩ := hrel
      by_cases hlt : k < n
      · have hlen := leafTo_len ts k
        have hsu := leafTo_succ ts k
        rw [hl.out] at hsu
        have hdk : decide (k < n) = true := by simpa using hlt
        go_wp2_with fail
        refine (rchildren_any a n cap ts k _ (hr.ext hx) ht).mono ?_
        rintro e w2 ⟨v2, rfl, o2, x2⟩
        obtain ⟨ak, mk, ck, hmk, rfl, _⟩ := OwnK.rdn I64.len o2
        have hown2 := hown.kept x2
        by_cases h0 : kidsTo ts n k = []
        · have hz : ((mk : Int) == 0) = true := by rw [hmk, h0]; rfl
          rw [if_pos h0] at hsu
          replace hsu := Lib.hid hsu
          replace hmk := Lib.hid hmk
          clear h0
          go_wp2_with (at_builtin; refine wp_app1 w w2 (k : Int) rfl _ _ 52 rfl 3 Tryd.underlying52 info_int rfl (by decide) _ _ rfl hown2 (hx.trans x2) rfl (I64.len _) (I64.one _) (by omega) (by unfold maxLen; omega) ?_; intro v3 w3 o3 x3 _)
          (first | exact ⟨⟨k + 1, by omega, by go_num, x3, by rw [hsu.out]; exact o3⟩, (by simp [intOf]; omega)⟩ | (go_roundw; case rel => exact ⟨k + 1, by omega, by go_num, x3, by rw [hsu.out]; exact o3⟩; case measure => exact (by simp [intOf]; omega)))
        · have hz : ((mk : Int) == 0) = false := by
            have : mk ≠ 0 := fun e => h0 (List.eq_nil_of_length_eq_zero (by rw [← hmk, e]))
            simpa using this
          rw [if_neg h0, List.append_nil] at hsu
          replace hsu := Lib.hid hsu
          replace hmk := Lib.hid hmk
          clear h0
          go_wp2_with fail
          (first | exact ⟨⟨k + 1, by omega, by go_num, hx.trans x2, by rw [hsu.out]; exact hown2⟩, (by simp [intOf]; omega)⟩ | (go_roundw; case rel => exact ⟨k + 1, by omega, by go_num, hx.trans x2, by rw [hsu.out]; exact hown2⟩; case measure => exact (by simp [intOf]; omega)))
      · have hkn : k = n := by omega
        subst hkn
        go_wp2_with fail
        go_ret2
        exact ⟨_, rfl, by unfold leafL; rw [hl.out]; exact hown, hx⟩
end Go.Proofs.YtdloabjnjnjacaaDoor
