/-
  corr.Merge.
-/
import Derived.Test.YtjfhfbobnncpkaaDoorKz
import Derived.Test.YtjfhfbobnncpkaaDoorKr
namespace Go.Proofs.YtjfhfbobnncpkaaDoor
open Go.RowKit Go.Shelf
theorem cl_kind {c : Cl} (h : c.ok = true) : 0 ≤ c.kind ∧ c.kind < 256 := by
  unfold Cl.ok at h
  split at h
  · omega
  · split at h
    · omega
    · cases h
theorem iter_all {w : World} {Bx : Nat} {a : Option Addr} {m cap : Nat} {hv : List HL} (hb : w.cell? ⟨Bx, 0, none⟩ = some (.slice a m cap)) (hr : RdHL w a m cap hv) : IterH 29 #[.pointer (some ⟨Bx, 0, none⟩)] (flatH hv) w := by
  intro l J Jx W hJ hX hY h0
  have := all1_in 8 l Bx (by omega) a m cap hv J Jx hJ (fun s X hs => ⟨(hX s X hs).cellv hb, hr.ext (hX s X hs)⟩) hY W h0
  simpa using this
theorem rdl_two {w : World} {a : Option Addr} {m cap : Nat} {l : List HCo} (hr : RdH w a m cap l) {b : Option Addr} {m2 cap2 : Nat} {l2 : List HCo} (hs : RdH w b m2 cap2 l2) : RdL (w.alloc (.cells #[.slice a m cap, .slice b m2 cap2] 37)) (some ⟨w.heap.size, 0, none⟩) 2 2 [l, l2] :=
  RdV.lit (R := RH) (W := w.alloc (.cells #[.slice a m cap, .slice b m2 cap2] 37)) (vs := [.slice a m cap, .slice b m2 cap2]) (ws := [l, l2]) (b := w.heap.size) (by simp)
    (fun j u hu => by
      have := cell_new_list w [.slice a m cap, .slice b m2 cap2] 37 j u hu
      unfold Addr.add at this; split at this
      · rename_i h0; subst h0; exact this
      · simpa using this) rfl (by simp [maxLen])
    (fun i v x hv hx => by
      cases i with
      | zero => simp at hv hx; subst hv; subst hx; exact ⟨a, m, cap, rfl, hr.ext (Ext.alloc1 _ _)⟩
      | succ i =>
        cases i with
        | zero => simp at hv hx; subst hv; subst hx; exact ⟨b, m2, cap2, rfl, hs.ext (Ext.alloc1 _ _)⟩
        | succ i => simp at hv) rfl
theorem rdhl_two {w : World} {a : Option Addr} {m cap : Nat} {l : List HCo} (hr : RdH w a m cap l) {b : Option Addr} {m2 cap2 : Nat} {l2 : List HCo} (hs : RdH w b m2 cap2 l2) : RdHL (w.alloc (.cells #[.slice a m cap, .slice b m2 cap2] 37)) (some ⟨w.heap.size, 0, none⟩) 2 2 [⟨a, m, cap, l⟩, ⟨b, m2, cap2, l2⟩] :=
  ⟨OwnK.rdc (k := 1) (enc := HL.enc) (fun _ => rfl) (lit_own (k := 1) (enc := HL.enc) (fun _ => rfl) w 37 [⟨a, m, cap, l⟩, ⟨b, m2, cap2, l2⟩] #[.slice a m cap, .slice b m2 cap2] rfl (n := 2) rfl (by omega)), fun y hy => by
    simp at hy
    rcases hy with rfl | rfl
    · exact hr.ext (Ext.alloc1 _ _)
    · exact hs.ext (Ext.alloc1 _ _)⟩
set_option maxHeartbeats 2000000 in
theorem merge_any (a : Option Addr) (n cap : Nat) (l : List HCo) (b : Option Addr) (m cap2 : Nat) (l2 : List HCo) (w : World) (hr : RdH w a n cap l) (hs : RdH w b m cap2 l2) :
    Calls Tryd.prog 12 #[.slice a n cap, .slice b m cap2] w (OrSum (chkE [l, l2]) ((l ++ l2).map kp) w) := by
  have hck := ccheck_any _ 2 2 [l, l2] _ (rdl_two hr hs)
  by_cases h0 : chkE [l, l2] = 0
  · obtain ⟨h1, h2⟩ := chkE_all h0
    have hfl : [l, l2].flatten = l ++ l2 := by simp
    rw [hfl] at h2
    obtain ⟨hn1, hw1⟩ := h1 l (by simp)
    obtain ⟨hn2, hw2⟩ := h1 l2 (by simp)
    have hlen : (l ++ l2).length ≤ 20000 := by rw [List.length_append]; omega
    have hyy : ∀ y ∈ l ++ l2, y.n ≤ 64 ∧ (∀ c ∈ y.x, 0 ≤ c.kind ∧ c.kind < 256) ∧ 0 ≤ y.cnt ∧ y.cnt ≤ 2147483647 := fun y hy => by
      obtain ⟨_, r1, r2, r3⟩ := h2 y hy
      refine ⟨?_, fun c hc => cl_kind (List.all_eq_true.1 r3 c hc), by omega, r2⟩
      rcases List.mem_append.1 hy with h | h
      · exact hw1 y h
      · exact hw2 y h
    replace hck := cint hck h0
    unfold OrSum
    replace h0 := Lib.hid h0
    clear h1 h2 hfl hw1 hw2 hn1 hn2
    replace hlen := Lib.hid hlen
    replace hyy := Lib.hid hyy
    go_enter Tryd.func12, Tryd.ntmps12
    go_wp2_with fail
    refine hck.mono ?_
    rintro e w1 ⟨rfl, hx1⟩
    have hxw1 : Ext w w1 := (Ext.alloc1 _ _).trans hx1
    have hr1 := hr.ext hxw1
    have hs1 := hs.ext hxw1
    clear hck
    have hrl := rdhl_two hr1 hs1
    go_wp2_with fail
    refine (callsIn_wide.1 (all_in 9 (some ⟨w1.heap.size, 0, none⟩) 2 2 _)).mono ?_
    rintro e w3 ⟨rfl, hw3⟩
    have hx3 : Ext (w1.alloc (.cells #[.slice a n cap, .slice b m cap2] 37)) w3 := by rw [hw3]; exact Ext.alloc1 _ _
    have hb3 : w3.cell? ⟨w1.heap.size + 1, 0, none⟩ = some (.slice (some ⟨w1.heap.size, 0, none⟩) 2 2) := by rw [hw3]; have := Boxed.cell (Boxed.new (w1.alloc (.cells #[.slice a n cap, .slice b m cap2] 37)) 74 (.slice (some ⟨w1.heap.size, 0, none⟩) 2 2)); rwa [World.size_alloc] at this
    clear hw3
    have hxw3 : Ext w w3 := (hxw1.trans (Ext.alloc1 _ _)).trans hx3
    have hit := iter_all hb3 (hrl.ext hx3)
    have hfl : flatH [⟨a, n, cap, l⟩, ⟨b, m, cap2, l2⟩] = l ++ l2 := by simp [flatH]
    rw [hfl] at hit
    have hcs := csum_any _ _ (enters_of Tryd.func29 (by kernel_rfl) rfl) (l ++ l2) w3 hlen.out (fun y hy => ⟨by
      rcases List.mem_append.1 hy with h | h
      · exact (hr.ok y h).ext hxw3
      · exact (hs.ok y h).ext hxw3, (hyy.out y hy).1, (hyy.out y hy).2.1, (hyy.out y hy).2.2⟩) hit
    clear hit hb3 hrl hfl
    unfold SumG at hcs
    go_wp2_with fail
    refine hcs.mono ?_
    rintro e w4 ⟨L, hL, v, hs', rfl, hown', hk', hx4⟩
    replace hk' := Lib.hid hk'
    go_wp2_with fail
    go_ret2
    exact .inr ⟨h0.out, L, hL, v, hs', rfl, OwnL.base hown'.to hxw3.le, hk'.out, hxw3.trans hx4⟩
  · unfold OrSum
    generalize chkE [l, l2] = er at *
    have hd : (er != 0) = true := by simpa using h0
    go_enter Tryd.func12, Tryd.ntmps12
    go_wp2_with fail
    refine hck.mono ?_
    rintro e w1 ⟨rfl, hx1⟩
    clear hck
    replace h0 := Lib.hid h0
    go_wp2_with fail
    go_ret2
    exact .inl ⟨h0.out, rfl, (Ext.alloc1 _ _).trans hx1⟩
end Go.Proofs.YtjfhfbobnncpkaaDoor
