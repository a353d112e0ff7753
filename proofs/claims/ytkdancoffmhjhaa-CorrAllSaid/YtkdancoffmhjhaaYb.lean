/-
  corr.Only.
-/
import Derived.Test.YtkdancoffmhjhaaYa
import Derived.Test.YtkdancoffmhjhaaKx
namespace Go.Proofs.Ytkdancoffmhjhaa
open Go.RowKit Go.Shelf
theorem elem_ints : Try.prog.underlying 54 = some (.slice (Try.prog.elem 54)) := by kernel_rfl
theorem size_ints (w : World) : (sizeOf (Try.prog.elem 54)).run Try.prog w = .ok 1 w := by kernel_rfl
theorem indexN_any (a : Option Addr) (n cap : Nat) (xs : List Int) (x : Int) (w : World) (hr : RdI w a n cap xs) :
    Calls Try.prog 84 #[.slice a n cap, .int .i64 x] w fun e w' => ∃ r : Int, e = .returned (.int .i64 r) ∧ decide (0 ≤ r) = decide (x ∈ xs) ∧ Ext w w' := by
  have hl := hr.len
  have hmax : n ≤ 9223372036854775807 := by have := hr.le; have := hr.most; unfold maxLen at this; omega
  replace hl := Lib.hid hl
  go_enter Try.func84, Try.ntmps84
  go_wp2_with fail
  go_loopw [8] (fun i wr => ∃ k : Nat, k ≤ n ∧ i = .int .i64 k ∧ Ext w wr ∧ Hid (∀ (i : Nat) (y : _), i < k → xs[i]? = some y → decide (x ≠ y) = true)) (fun i _ => n - (intOf i).toNat)
  case atStart => exact ⟨0, Nat.zero_le _, rfl, Ext.refl _, fun i x hi => absurd hi (Nat.not_lt_zero _)⟩
  case round =>
    obtain ⟨k, hk, rfl, hx, hall⟩ := hrel
    by_cases hlt : k < n
    · obtain ⟨b, off, y, rfl, hs, hb, hc0⟩ := (hr.ext hx).i64 hlt
      have hki : (k : Int) < (n : Int) := by omega
      by_cases hp : x = y
      · have hd : (x == y) = true := by simpa using hp
        have hany : Hid (x ∈ xs) := Lib.hid (by rw [hp]; exact List.mem_of_getElem? hs.out)
        replace hp := Lib.hid hp
        go_wp2_with fail
        go_ret
        exact ⟨(k : Int), rfl, by simp [hany.out], hx⟩
      · have hd : (x == y) = false := by simpa using hp
        have hnew := Lib.hid (all_succ (p := fun y => decide (x ≠ y)) hall.out hs.out (by simpa using hp))
        replace hp := Lib.hid hp
        go_wp2_with fail
        (first | exact ⟨⟨k + 1, by omega, by go_num, hx, hnew⟩, (by simp [intOf]; omega)⟩ | (go_roundw; case rel => exact ⟨k + 1, by omega, by go_num, hx, hnew⟩; case measure => exact (by simp [intOf]; omega)))
    · have hno : Hid (x ∉ xs) := Lib.hid (fun hm => by
        obtain ⟨i, hi⟩ := List.getElem?_of_mem hm
        have := hall.out i x (by have := (List.getElem?_eq_some_iff.1 hi).1; rw [hl.out] at this; omega) hi
        simp at this)
      go_wp2_with fail
      go_ret
      exact ⟨-1, rfl, by simp [hno.out], hx⟩
theorem containsN_any (a : Option Addr) (n cap : Nat) (xs : List Int) (x : Int) (w : World) (hr : RdI w a n cap xs) :
    Calls Try.prog 58 #[.slice a n cap, .int .i64 x] w fun e w' => e = .returned (.bool (decide (x ∈ xs))) ∧ Ext w w' := by
  go_enter Try.func58, Try.ntmps58
  go_wp2_with fail
  refine (indexN_any a n cap xs x _ hr).mono ?_
  rintro e w1 ⟨r, rfl, hd, hx1⟩
  replace hd := Lib.hid hd
  go_wp2_with fail
  go_ret
  exact ⟨ret_bool hd.out, hx1⟩
/-! ### Why languages are not possible -/
def langE (W : Nat) : List Int → List Int → Int
  | _, [] => 0
  | seen, k :: r => if k < 0 ∨ (W : Int) ≤ k then 3 else if k ∈ seen then 6 else langE W (seen ++ [k]) r
def onlyE (l : List HCo) (ks : List Int) : Int := if chkE [l] ≠ 0 then chkE [l] else langE (widH l) [] ks
theorem langE_at {W : Nat} {ks : List Int} {j : Nat} {k : Int} (h : ks[j]? = some k) : langE W (ks.take j) (ks.drop j) = if k < 0 ∨ (W : Int) ≤ k then 3 else if k ∈ ks.take j then 6 else langE W (ks.take (j + 1)) (ks.drop (j + 1)) := by
  obtain ⟨hj, rfl⟩ := List.getElem?_eq_some_iff.1 h
  rw [List.drop_eq_getElem_cons hj, take_succ_at h]
  rfl
theorem langE_zero {W : Nat} : ∀ (r seen : List Int), langE W seen r = 0 → seen.Nodup → (seen ++ r).Nodup ∧ ∀ k ∈ r, 0 ≤ k ∧ k < (W : Int)
  | [], seen, _, hn => by simpa using hn
  | k :: r, seen, h, hn => by
    unfold langE at h
    split at h
    · cases h
    · rename_i h1
      split at h
      · cases h
      · rename_i h2
        obtain ⟨h3, h4⟩ := langE_zero r (seen ++ [k]) h (by
          rw [List.nodup_append]
          exact ⟨hn, by simp, fun a ha b hb e => by rw [List.mem_singleton.1 hb] at e; exact h2 (e ▸ ha)⟩)
        refine ⟨by simpa using h3, fun x hx => ?_⟩
        rcases List.mem_cons.1 hx with rfl | hx
        · omega
        · exact h4 x hx
theorem langE_len {W : Nat} {ks : List Int} (h : langE W [] ks = 0) : ks.length ≤ W ∧ ∀ k ∈ ks, 0 ≤ k ∧ k < (W : Int) := by
  obtain ⟨h1, h2⟩ := langE_zero ks [] h List.nodup_nil
  refine ⟨?_, h2⟩
  have := len_le ks ((List.range W).map fun i : Nat => (i : Int)) (by simpa using h1) (fun k hk => List.mem_map.2 ⟨k.toNat, List.mem_range.2 (by have := h2 k hk; omega), by have := h2 k hk; omega⟩)
  simpa using this
theorem onlyL_vals {l : List HCo} {ks : List Int} {W : Nat} (hW : W ≤ 64) (hk : ks.length ≤ W) (hks : ∀ k ∈ ks, 0 ≤ k ∧ k < (W : Int)) (hl : ∀ y ∈ l, y.x.length = W ∧ 1 ≤ y.cnt ∧ y.cnt ≤ 2147483647 ∧ y.x.all Cl.ok = true) :
    ∀ p ∈ onlyL ks l, p.1.length ≤ 64 ∧ (∀ c ∈ p.1, 0 ≤ c.kind ∧ c.kind < 256) ∧ 0 ≤ p.2 ∧ p.2 ≤ 2147483647 := by
  intro p hp
  unfold onlyL at hp
  obtain ⟨hp, _⟩ := List.mem_filter.1 hp
  obtain ⟨y, hy, rfl⟩ := List.mem_map.1 hp
  obtain ⟨r1, r2, r3, r4⟩ := hl y hy
  refine ⟨by unfold onlyC; simp only [List.length_map]; omega, fun c hc => ?_, by show 0 ≤ y.cnt; omega, r3⟩
  unfold onlyC at hc
  obtain ⟨k, hk2, rfl⟩ := List.mem_map.1 hc
  have := hks k hk2
  refine cl_kind ?_
  have hlt : k.toNat < y.x.length := by omega
  rw [List.getD_eq_getElem?_getD, List.getElem?_eq_getElem hlt]
  exact List.all_eq_true.1 r4 _ (List.getElem_mem hlt)
theorem onlyL_len (ks : List Int) (l : List HCo) : (onlyL ks l).length ≤ l.length := by
  unfold onlyL; have := List.length_filter_le (fun p : List Cl × Int => p.1.any knwB) (l.map fun y => (onlyC ks y, y.cnt)); rwa [List.length_map] at this
theorem iter_only {w : World} {B : Nat} {a : Option Addr} {m cap : Nat} {hs : List HCo} {ak : Option Addr} {nk ck : Nat} {ks : List Int} (h : OnlW B a m cap hs ak nk ck ks w) (hnk : nk ≤ 60000) (hv : ∀ y ∈ hs, ∀ k ∈ ks, 0 ≤ k ∧ k < (y.n : Int)) :
    IterV 59 #[.pointer (some ⟨B, 0, none⟩), .pointer (some ⟨B + 1, 0, none⟩)] (onlyL ks hs) w := by
  intro l J Jx W hJ hX hY h0
  have := only1_in 8 l B (by omega) a m cap hs ak nk ck ks J Jx hJ hnk hv (fun s X hs => h.ext (hX s X hs)) hY W h0
  simpa using this
theorem sumG_or {l : List (List Cl × Int)} {w w0 : World} {e : Ending} {w' : World} (hx : Ext w w0) (h : SumG l w0 e w') : SumRet l w e w' := by
  obtain ⟨L, hL, v, hs, he, ho, hk, hx'⟩ := h
  exact ⟨L, hL, v, hs, he, OwnL.base ho.to hx.le, hk, hx.trans hx'⟩
set_option maxHeartbeats 400000 in
set_option maxRecDepth 20000 in
theorem only_any (a : Option Addr) (n cap : Nat) (l : List HCo) (ak : Option Addr) (nk ck : Nat) (ks : List Int) (w : World) (hr : RdH w a n cap l) (hk : RdI w ak nk ck ks) :
    Calls Try.prog 32 #[.slice a n cap, .slice ak nk ck] w (OrSum (onlyE l ks) (onlyL ks l) w) := by
  have hB : ((w.alloc (.cells #[.slice a n cap] 24)).alloc (.cells #[.slice ak nk ck] 54)).cell? ⟨w.heap.size, 0, none⟩ = some (.slice a n cap) := by go_simp
  have hK : ((w.alloc (.cells #[.slice a n cap] 24)).alloc (.cells #[.slice ak nk ck] 54)).cell? ⟨w.heap.size + 1, 0, none⟩ = some (.slice ak nk ck) := by go_simp
  have hxB : Ext w ((w.alloc (.cells #[.slice a n cap] 24)).alloc (.cells #[.slice ak nk ck] 54)) := (by repeat (first | exact Ext.refl _ | refine Ext.drew ?_ | refine Ext.drewN ?_ _ | refine Ext.alloc ?_ _))
  have hck := ccheck_any _ 1 1 [l] _ (rdl_one (hr.ext hxB))
  rw [World.size_alloc, World.size_alloc] at hck
  have hkl := hk.len
  have hkmax : nk ≤ 9223372036854775807 := by have := hk.le; have := hk.most; unfold maxLen at this; omega
  have hkc := hk.le
  unfold OrSum
  by_cases h0 : chkE [l] = 0
  · obtain ⟨hlim, hcor⟩ := chkE_all h0
    have hfl : [l].flatten = l := by simp
    rw [hfl] at hcor
    obtain ⟨hlen, hn64⟩ := hlim l (by simp)
    have hW64 : widH l ≤ 64 := by
      cases hh : l with
      | nil => exact Nat.zero_le _
      | cons y r => exact hn64 y (by rw [hh]; simp)
    have hE : onlyE l ks = langE (widH l) [] ks := by unfold onlyE; rw [if_neg (by simp [h0])]
    rw [hE]
    have hask := fun (k : Int) W (z : Ext w W) => ask_any a n cap l k k none 0 0 [] W (hr.ext z) (RdK.nilS W)
    have haskv : ∀ k, askC l k k [] = if k < 0 ∨ (widH l : Int) ≤ k then 3 else 0 := by
      intro k
      unfold askC
      rw [if_neg (by simp [h0])]
      have e1 : (k < 0 ∨ (widH l : Int) ≤ k ∨ k < 0 ∨ (widH l : Int) ≤ k) ↔ (k < 0 ∨ (widH l : Int) ≤ k) := by omega
      simp only [e1]
      simp
    have hyl : ∀ y ∈ l, y.x.length = widH l ∧ 1 ≤ y.cnt ∧ y.cnt ≤ 2147483647 ∧ y.x.all Cl.ok = true := fun y hy => ⟨by rw [(hr.ok y hy).len]; exact (hcor y hy).1, (hcor y hy).2⟩
    have hwid : ∀ y ∈ l, y.n = widH l := fun y hy => (hcor y hy).1
    have hcs : langE (widH l) [] ks = 0 → ∀ W, OnlW w.heap.size a n cap l ak nk ck ks W → Calls Try.prog 49 #[.func (.func 59) #[] #[.pointer (some ⟨w.heap.size, 0, none⟩), .pointer (some ⟨w.heap.size + 1, 0, none⟩)]] W (SumG (onlyL ks l) W) := fun hz W hW => by
      obtain ⟨r1, r2⟩ := langE_len hz
      exact csumV_any _ _ (enters_of Try.func59 (by kernel_rfl) rfl) (onlyL ks l) W (by have := onlyL_len ks l; omega) (onlyL_vals hW64 r1 r2 hyl) (iter_only hW (by omega) (fun y hy k hk => by rw [hwid y hy]; exact r2 k hk))
    replace hck := cint hck h0
    generalize widH l = Wd at *
    obtain ⟨V, hV⟩ : ∃ V, V = langE Wd [] ks := ⟨_, rfl⟩
    rw [← hV]
    rw [← hV] at hcs
    replace hV := Lib.hid hV
    replace h0 := Lib.hid h0
    replace hkl := Lib.hid hkl
    replace hcs := Lib.hid hcs
    replace haskv := Lib.hid haskv
    clear hE hlim hcor hfl hn64 hyl hwid
    replace hlen := Lib.hid hlen
    replace hW64 := Lib.hid hW64
    go_enter Try.func32, Try.ntmps32
    go_wp2_with fail
    generalize hwB : ((w.alloc (.cells #[.slice a n cap] 24)).alloc (.cells #[.slice ak nk ck] 54)) = wB at *
    refine hck.mono ?_
    rintro e w1 ⟨rfl, hx1⟩
    have hx0 := (Ext.alloc1 wB (.cells #[.slice a n cap] 24)).trans hx1
    have hxw1 := hxB.trans hx0
    have b1 := hx0.cellv hB
    have k1 := hx0.cellv hK
    clear hck hB hK hwB
    go_wp2_with fail
    go_loopw [18] (fun i wr => ∃ (j : Nat), j ≤ nk ∧ i = .int .i64 j ∧ Hid (langE Wd (ks.take j) (ks.drop j) = V) ∧ Ext w1 wr) (fun i _ => nk - (intOf i).toNat)
    case atStart => exact ⟨0, Nat.zero_le _, rfl, Lib.hid (by rw [hV.out]; rfl), Ext.refl _⟩
    case round =>
      obtain ⟨j, hj, rfl, hjV, hxr⟩ := hrel
      have b2 := hxr.cellv b1
      have k2 := hxr.cellv k1
      by_cases hlt : j < nk
      · obtain ⟨bk, ok, kv, rfl, hkq, hbk, k0⟩ := ((hk.ext hxw1).ext hxr).i64 hlt
        have hji : (j : Int) < (nk : Int) := by omega
        have hst := langE_at (W := Wd) hkq.out
        rw [hjV.out] at hst
        have ha := hask kv wr (hxw1.trans hxr)
        rw [haskv.out] at ha
        by_cases h3 : kv < 0 ∨ (Wd : Int) ≤ kv
        · rw [if_pos h3] at hst ha
          replace hst := Lib.hid hst
          replace h3 := Lib.hid h3
          go_wp2_with fail
          refine ha.mono ?_
          rintro e w2 ⟨rfl, hx2⟩
          go_wp2_with fail
          go_ret2
          exact .inl ⟨by rw [hst.out]; decide, by rw [hst.out]; rfl, (hxw1.trans hxr).trans hx2⟩
        · rw [if_neg h3] at hst ha
          have hsl := fun w => run_sub_h (P := Try.prog) elem_ints size_ints (some ⟨bk, ok, none⟩) nk ck j (by omega) w
          have hcn := fun W (z : Ext wr W) => containsN_any (subA 1 (some ⟨bk, ok, none⟩) ck 0) j ck (ks.take j) kv W (by
            have := (((hk.ext hxw1).ext hxr).ext z).sub (l := 0) (m := j) (Nat.zero_le _) hj
            simpa using this)
          replace h3 := Lib.hid h3
          by_cases h6 : kv ∈ ks.take j
          · rw [if_pos h6] at hst
            rw [decide_eq_true h6] at hcn
            replace hst := Lib.hid hst
            replace h6 := Lib.hid h6
            go_wp2_with fail
            refine ha.mono ?_
            rintro e w2 ⟨rfl, hx2⟩
            have b3 := hx2.cellv b2
            have k3 := hx2.cellv k2
            have hcn2 := hcn w2 hx2
            go_wp2_with fail
            refine hcn2.mono ?_
            rintro e w3 ⟨rfl, hx3⟩
            go_wp2_with fail
            go_ret2
            exact .inl ⟨by rw [hst.out]; decide, by rw [hst.out]; rfl, ((hxw1.trans hxr).trans hx2).trans hx3⟩
          · rw [if_neg h6] at hst
            rw [decide_eq_false h6] at hcn
            replace hst := Lib.hid hst
            replace h6 := Lib.hid h6
            go_wp2_with fail
            refine ha.mono ?_
            rintro e w2 ⟨rfl, hx2⟩
            have b3 := hx2.cellv b2
            have k3 := hx2.cellv k2
            have hcn2 := hcn w2 hx2
            go_wp2_with fail
            refine hcn2.mono ?_
            rintro e w3 ⟨rfl, hx3⟩
            clear hcn hcn2 ha
            go_wp2_with fail
            (first | exact ⟨⟨j + 1, by omega, by go_num, Lib.hid hst.out.symm, (hxr.trans hx2).trans hx3⟩, (by simp [intOf]; omega)⟩ | (go_roundw; case rel => exact ⟨j + 1, by omega, by go_num, Lib.hid hst.out.symm, (hxr.trans hx2).trans hx3⟩; case measure => exact (by simp [intOf]; omega)))
      · obtain rfl : j = nk := by omega
        have hV0 : V = 0 := by
          have := hjV.out
          rw [List.drop_of_length_le (by rw [hkl.out]; exact Nat.le_refl _)] at this
          rw [← this]; rfl
        subst hV0
        have hcs2 := hcs.out rfl wr ⟨b2, k2, hr.ext (hxw1.trans hxr), hk.ext (hxw1.trans hxr)⟩
        go_wp2_with fail
        refine hcs2.mono ?_
        rintro e w4 h4
        obtain ⟨L, hL, v, hs', rfl, hown', hk', hx4⟩ := sumG_or (hxw1.trans hxr) h4
        replace hk' := Lib.hid hk'
        clear hcs2 h4
        go_wp2_with fail
        go_ret2
        exact ⟨L, hL, v, hs', rfl, hown', hk'.out, hx4⟩
  · have hE : onlyE l ks = chkE [l] := by unfold onlyE; rw [if_pos h0]
    rw [hE]
    generalize chkE [l] = er at *
    have hd : (er != 0) = true := by simpa using h0
    replace h0 := Lib.hid h0
    clear hE
    go_enter Try.func32, Try.ntmps32
    go_wp2_with fail
    refine hck.mono ?_
    rintro e w1 ⟨rfl, hx1⟩
    go_wp2_with fail
    go_ret2
    exact .inl ⟨h0.out, rfl, (hxB.trans (Ext.alloc1 _ _)).trans hx1⟩
end Go.Proofs.Ytkdancoffmhjhaa
