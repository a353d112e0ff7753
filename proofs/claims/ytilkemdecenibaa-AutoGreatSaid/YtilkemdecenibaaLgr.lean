/-
  AutoGreat: the walk.
-/
import Derived.Test.YtilkemdecenibaaNz
import Derived.Test.YtilkemdecenibaaGd
import Derived.Test.YtilkemdecenibaaGc
import Derived.Test.YtilkemdecenibaaBf
namespace Go.Proofs.Ytilkemdecenibaa
open Go.RowKit Go.Maps
def grE (k : Nat) : Int := if k = 9 then 12 else 0
def GrP (w : World) (k n : Nat) (p : Option Addr) : Prop := (k = 9 ∧ p = none) ∨ (k ≤ 8 ∧ ∃ b, p = some ⟨b, 0, none⟩ ∧ AuAt w b (winL ⟨1#32, 0#32⟩ k n))
theorem great_build {k n : Nat} (hk : k ≤ 9) (h2 : 2 ≤ n) (h8 : n ≤ 8) {a1 a2 a3 : Option Addr} {w : World} {sa : Option Addr} {sc : Nat} (hP : RdPt w (winP ⟨1#32, 0#32⟩ k a1 a2 a3)) (hS : RdS w sa n sc (alph n)) :
    Calls Try.prog 35 #[patV (winP ⟨1#32, 0#32⟩ k a1 a2 a3), .slice sa n sc] w fun e w' => ∃ p, e = .returned (.tuple #[.pointer p, .int .i64 (grE k)]) ∧ GrP w' k n p ∧ Ext w w' := by
  by_cases h9 : k = 9
  · subst h9
    refine (buildR_any (win9_wid a1 a2 a3).1 (win9_wid a1 a2 a3).2.1 hP hS (r := 12) (by rw [(win9_wid a1 a2 a3).2.2, alph_ref h8, if_pos (by decide)]) (by decide)).mono ?_
    rintro e w1 ⟨rfl, hx1⟩
    exact ⟨none, rfl, .inl ⟨rfl, rfl⟩, hx1⟩
  · refine (built_any (win1_built (by omega) h2 h8 a1 a2 a3) hP hS).mono ?_
    rintro e w1 ⟨b, rfl, hA, hx1⟩
    exact ⟨_, by unfold grE; rw [if_neg h9], .inr ⟨by omega, b, rfl, hA⟩, hx1⟩
theorem beg_rd (w : World) : RdPt w begP := by
  unfold begP
  simp only [RdPt, RdPts, and_true]
  exact ⟨rfl, Nat.le_refl _, Nat.zero_le _, fun _ => rfl, fun h => absurd h (Nat.lt_irrefl 0)⟩
theorem notG_ok {A : Au} (h : A.okB = true) : (notM A).okB = true := by
  unfold Au.okB at h ⊢
  unfold notM
  simpa using h
set_option maxHeartbeats 2000000 in
set_option maxRecDepth 20000 in
theorem autoGreat_any (c d : Nat) (w : World) (hc : c < 256) (hd : d < 256) : Calls Try.prog 12 #[.int .u8 (c : Int), .int .u8 (d : Int)] w fun e w' => e = .returned (.bool true) ∧ Ext w w' := by
  obtain ⟨k, hk⟩ : ∃ k, k = c % 10 := ⟨_, rfl⟩
  obtain ⟨n, hn⟩ : ∃ n, n = 2 + d % 7 := ⟨_, rfl⟩
  have hk9 : k ≤ 9 := by omega
  have hn2 : 2 ≤ n := by omega
  have hn8 : n ≤ 8 := by omega
  have e1 : (c : Int) % 10 = (k : Int) := by omega
  have e2 : 2 + (d : Int) % 7 = (n : Int) := by omega
  replace hk := Lib.hid hk
  replace hn := Lib.hid hn
  go_enter Try.func12, Try.ntmps12
  go_wp2_with fail
  have l0 : (w.alloc (.cells #[.int .u32 1, .int .u32 0] 24)).cell? ⟨w.heap.size, 0, none⟩ = some (.int .u32 1) := by go_simp
  have l1 : (w.alloc (.cells #[.int .u32 1, .int .u32 0] 24)).cell? ⟨w.heap.size, 1, none⟩ = some (.int .u32 0) := by go_simp
  have hx0 := Ext.alloc1 w (.cells #[.int .u32 1, .int .u32 0] 24)
  generalize w.alloc (.cells #[.int .u32 1, .int .u32 0] 24) = w0 at *
  generalize w.heap.size = B7 at *
  refine wp_region_F (fun W' : World => Ext w0 W') [0, 3, 5, 7, 11, 15, 16] (by kernel_rfl) ?_
  show wpF _ _ _ _ _ _ 19 _ _ _
  have hS0 : (fun W' : World => Ext w0 W') w0.drew := (Ext.refl _).drew
  refine wpF_take (i := 0) (v := (.agg #[.int .u32 0, .int .u32 0])) rfl (by kernel_rfl) (by kernel_rfl) (by kernel_rfl) (by kernel_rfl) (fun _ _ _ h => h) (.inl ⟨rfl, fun W' hW' => ?_⟩) hS0 ?_
  · go_simp
  refine wpF_take (i := 3) (v := .agg #[.int .u32 1, .int .u32 0]) rfl (by kernel_rfl) (by kernel_rfl) (by kernel_rfl) (by kernel_rfl) (fun _ _ _ h => h) (.inl ⟨rfl, fun W' hW' => ?_⟩) hS0 ?_
  · have u0 := Ext.cellv hW' l0
    have u1 := Ext.cellv hW' l1
    go_simp
  refine wpF_take (i := 5) (v := (.agg #[.int .u32 0, .int .u32 0])) rfl (by kernel_rfl) (by kernel_rfl) (by kernel_rfl) (by kernel_rfl) (fun _ _ _ h => h) (.inl ⟨rfl, fun W' hW' => ?_⟩) hS0 ?_
  · go_simp
  refine wpF_take (i := 7) (v := (.int .i64 (k : Int))) rfl (by kernel_rfl) (by kernel_rfl) (by kernel_rfl) (by kernel_rfl) (fun _ _ _ h => h) (.inl ⟨rfl, fun W' hW' => ?_⟩) hS0 ?_
  · go_simp
  refine wpF_take (i := 11) (v := (.int .i64 (n : Int))) rfl (by kernel_rfl) (by kernel_rfl) (by kernel_rfl) (by kernel_rfl) (fun _ _ _ h => h) (.inl ⟨rfl, fun W' hW' => ?_⟩) hS0 ?_
  · go_simp
  refine wpF_step (k := 1) rfl (by kernel_rfl) rfl fun K hK => ?_
  go_simp
  refine (sound_any ⟨0#32, 0#32⟩ _).mono ?_
  rintro e x1 ⟨rfl, hx1⟩
  replace hS0 := Ext.trans hS0 hx1
  refine hK _ _ hS0 ?_
  clear hK K hx1
  refine wpF_step (k := 2) rfl (by kernel_rfl) rfl fun K hK => ?_
  go_simp
  refine (star_any _ _ (oneP_rd ⟨0#32, 0#32⟩ _)).mono ?_
  rintro e x2 ⟨g1, rfl, hP1, hx2⟩
  replace hS0 := Ext.trans hS0 hx2
  refine hK _ _ hS0 ?_
  clear hK K hx2
  refine wpF_step (k := 4) rfl (by kernel_rfl) rfl fun K hK => ?_
  go_simp
  refine (sound_any ⟨1#32, 0#32⟩ _).mono ?_
  rintro e x3 ⟨rfl, hx3⟩
  replace hS0 := Ext.trans hS0 hx3
  replace hP1 := hP1.ext hx3
  refine hK _ _ hS0 ?_
  clear hK K hx3
  refine wpF_step (k := 6) rfl (by kernel_rfl) rfl fun K hK => ?_
  go_simp
  refine (sound_any ⟨0#32, 0#32⟩ _).mono ?_
  rintro e x4 ⟨rfl, hx4⟩
  replace hS0 := Ext.trans hS0 hx4
  replace hP1 := hP1.ext hx4
  refine hK _ _ hS0 ?_
  clear hK K hx4
  refine wpF_step (k := 8) rfl (by kernel_rfl) rfl fun K hK => ?_
  go_simp
  refine (times_any _ (k : Int) _ (oneP_rd ⟨0#32, 0#32⟩ _)).mono ?_
  rintro e x5 ⟨g2, rfl, hP2, hx5⟩
  replace hS0 := Ext.trans hS0 hx5
  replace hP1 := hP1.ext hx5
  refine hK _ _ hS0 ?_
  clear hK K hx5
  refine wpF_step (k := 9) rfl (by kernel_rfl) rfl fun K hK => ?_
  go_simp
  generalize hW : World.alloc x5 _ = x6
  have hx6 : Ext x5 x6 := by rw [← hW]; exact Ext.alloc1 _ _
  have hL : RdK 7 HP.enc x6 (some ⟨x5.heap.size, 0, none⟩) 3 3 [starP anyP (some ⟨g1, 0, none⟩), oneP ⟨1#32, 0#32⟩, timesP anyP (k : Int) (some ⟨g2, 0, none⟩)] := by
    refine rd_block (b := x5.heap.size) HP.len (by rw [← hW]; exact World.alloc_heap_new x5 _) ?_ rfl (by unfold maxLen; omega)
    rfl
  clear hW
  have hLs : ∀ x ∈ [starP anyP (some ⟨g1, 0, none⟩), oneP ⟨1#32, 0#32⟩, timesP anyP (k : Int) (some ⟨g2, 0, none⟩)], RdPt x6 x := by
    intro x hx
    simp only [List.mem_cons, List.not_mem_nil, or_false] at hx
    rcases hx with rfl | rfl | rfl
    · exact hP1.ext hx6
    · exact oneP_rd _ _
    · exact hP2.ext hx6
  generalize x5.heap.size = g3 at *
  replace hS0 := Ext.trans hS0 hx6
  refine hK _ _ hS0 ?_
  clear hK K hx6 hP1 hP2
  refine wpF_step (k := 10) rfl (by kernel_rfl) rfl fun K hK => ?_
  go_simp
  refine (seqP_any _ _ 3 3 _ hL hLs).mono ?_
  rintro e x7 ⟨rfl, hP, hx7⟩
  replace hP : RdPt x7 (winP ⟨1#32, 0#32⟩ k (some ⟨g1, 0, none⟩) (some ⟨g2, 0, none⟩) (some ⟨g3, 0, none⟩)) := hP
  replace hS0 := Ext.trans hS0 hx7
  refine hK _ _ hS0 ?_
  clear hK K hx7 hL hLs
  refine wpF_step (k := 12) rfl (by kernel_rfl) rfl fun K hK => ?_
  go_simp
  refine (alphabet_any n hn8 _).mono ?_
  rintro e x8 ⟨v8, rfl, hSo, hx8⟩
  obtain ⟨sa, sn, sc, hsn, rfl, hS⟩ := OwnK.rdn Snd.len hSo
  have hsk : sn = n := by rw [hsn, alph_len]
  rw [hsk] at hS
  rw [hsk]
  clear hsn hsk hSo
  replace hP := hP.ext hx8
  replace hS0 := Ext.trans hS0 hx8
  refine hK _ _ hS0 ?_
  clear hK K hx8
  refine wpF_step (k := 13) rfl (by kernel_rfl) rfl fun K hK => ?_
  go_simp
  refine (great_build hk9 hn2 hn8 hP hS).mono ?_
  rintro e x9 ⟨p9, rfl, hG, hx9⟩
  replace hS0 := Ext.trans hS0 hx9
  refine hK _ _ hS0 ?_
  clear hK K hx9 hP hS
  refine wpF_step (k := 14) rfl (by kernel_rfl) rfl fun K hK => ?_
  go_simp
  refine hK _ _ hS0 ?_
  clear hK K
  refine wpF_take (i := 15) (v := (.pointer p9)) rfl (by kernel_rfl) (by kernel_rfl) (by kernel_rfl) (by kernel_rfl) (fun _ _ _ h => h) (.inl ⟨rfl, fun W' hW' => ?_⟩) hS0 ?_
  · go_simp
  refine wpF_take (i := 16) (v := (.int .i64 (grE k))) rfl (by kernel_rfl) (by kernel_rfl) (by kernel_rfl) (by kernel_rfl) (fun _ _ _ h => h) (.inl ⟨rfl, fun W' hW' => ?_⟩) hS0 ?_
  · go_simp
  refine wpF_step (k := 17) rfl (by kernel_rfl) rfl fun K hK => ?_
  go_simp
  refine hK _ _ hS0 ?_
  clear hK K
  refine wpF_step (k := 18) rfl (by kernel_rfl) rfl fun K hK => ?_
  go_simp
  refine hK _ _ hS0 ?_
  clear hK K
  refine ⟨by kernel_rfl, ?_⟩
  have hx := hx0.trans hS0
  replace l0 := Ext.cellv hS0 l0
  replace l1 := Ext.cellv hS0 l1
  clear hS0
  by_cases h9 : k = 9
  · obtain rfl : p9 = none := by
      rcases hG with h | h
      · exact h.2
      · omega
    have eg : grE k = 12 := by unfold grE; rw [if_pos h9]
    have d9 : decide ((k : Int) = 9) = true := decide_eq_true (by omega)
    have hki : (k : Int) = 9 := by omega
    replace h9 := Lib.hid h9
    clear hG
    rw [eg]
    have d8 : ((k : Int) == 9) = true := by simpa using hki
    replace hki := Lib.hid hki
    go_wp2_with fail
    clear eg d9 d8
    refine (sound_any ⟨0#32, 0#32⟩ _).mono ?_
    rintro e u1 ⟨rfl, hu1⟩
    go_wp2_with fail
    refine (times_any _ ((k + 1 : Nat) : Int) _ (oneP_rd ⟨0#32, 0#32⟩ _)).mono ?_
    rintro e u2 ⟨f1, rfl, hP, hu2⟩
    go_wp2_with fail
    refine (star_any _ _ hP).mono ?_
    rintro e u3 ⟨f2, rfl, hP, hu3⟩
    go_wp2_with fail
    refine (alphabet_any n hn8 _).mono ?_
    rintro e u4 ⟨v4, rfl, hSo, hu4⟩
    obtain ⟨sb, sm, sd, hsm, rfl, hS⟩ := OwnK.rdn Snd.len hSo
    have hsk : sm = n := by rw [hsm, alph_len]
    rw [hsk] at hS
    rw [hsk]
    clear hsm hsk hSo
    replace hP : RdPt u4 (timP (k + 1) (some ⟨f1, 0, none⟩) (some ⟨f2, 0, none⟩)) := hP.ext hu4
    have hxu := (hu1.trans hu2).trans (hu3.trans hu4)
    go_wp2_with fail
    refine (built_any (tim_built (by omega) hn2 hn8 (some ⟨f1, 0, none⟩) (some ⟨f2, 0, none⟩)) hP hS).mono ?_
    rintro e u5 ⟨bt, rfl, hT, hu5⟩
    replace hxu := hxu.trans hu5
    replace hx := hx.trans hxu
    replace l0 := Ext.cellv hxu l0
    replace l1 := Ext.cellv hxu l1
    clear hxu hu1 hu2 hu3 hu4 hu5 hP hS
    have el := (timA_len k n).1
    have hst := states_any (timA k n) u5 bt hT
    rw [el] at hst
    clear el
    go_wp2_with fail
    refine hst.mono ?_
    rintro e u6 ⟨rfl, hu6⟩
    replace hx := hx.trans hu6
    replace hT := hT.ext hu6
    replace l0 := Ext.cellv hu6 l0
    replace l1 := Ext.cellv hu6 l1
    clear hu6 hst
    go_wp2_with fail
    have hn0 : ¬ (n = 0) := by omega
    have hmk : ∀ W, (Instr.makeSlice 28 (.int .i64 33) (.int .i64 33)).run Try.prog W = .ok (.slice (some ⟨W.heap.size, 0, none⟩) 33 33) (W.alloc (.cells (madeCells (Value.agg #[.int .u32 0, .int .u32 0]).cells (33 * 2)) 24)) := fun W => run_mk (k := 2) (P := Try.prog) 28 Try.underlying28 info_snd 33 (by omega) (by decide) W
    have hk0 : ¬ ((k : Int) + 1 = 0) := by omega
    go_loopw [82] (fun iv wr => ∃ i : Nat, i ≤ 33 ∧ iv = .int .i64 i ∧ Ext u6 wr) (fun iv _ => 33 - (intOf iv).toNat)
    case atStart => exact ⟨0, Nat.zero_le _, rfl, Ext.refl _⟩
    case round =>
      obtain ⟨i, hi, rfl, hxr⟩ := hrel
      by_cases hlt : i < 33
      · have hki : (i : Int) < 33 := by omega
        have hTr := fun W (hW : Ext wr W) => hT.ext (hxr.trans hW)
        obtain ⟨m, hm⟩ : ∃ m, m = i % n := ⟨_, rfl⟩
        obtain ⟨q, hq⟩ : ∃ q, q = i % (k + 1) := ⟨_, rfl⟩
        have em : (i : Int).tmod (n : Int) = (m : Int) := by rw [hm]; rfl
        have eq : (i : Int).tmod ((k : Int) + 1) = (q : Int) := by rw [hq]; rfl
        have hmn : m < n := by rw [hm]; exact Nat.mod_lt _ (by omega)
        replace hm := Lib.hid hm
        replace hq := Lib.hid hq
        replace hTr := Lib.hid hTr
        go_wp2_with fail
        refine wp_region_F (fun W' : World => Ext wr W') [0, 1, 3, 4, 5, 9, 12, 13, 14, 15, 16, 17] (by kernel_rfl) ?_
        show wpF _ _ _ _ _ _ 18 _ _ _
        have hS0 : (fun W' : World => Ext wr W') wr.drew := (Ext.refl _).drew
        refine wpF_take (i := 0) (v := (.pointer (some ⟨bt, 0, none⟩))) rfl (by kernel_rfl) (by kernel_rfl) (by kernel_rfl) (by kernel_rfl) (fun _ _ _ h => h) (.inl ⟨rfl, fun W' hW' => ?_⟩) hS0 ?_
        · go_simp
        refine wpF_take (i := 1) (v := (.int .i64 (n : Int))) rfl (by kernel_rfl) (by kernel_rfl) (by kernel_rfl) (by kernel_rfl) (fun _ _ _ h => h) (.inl ⟨rfl, fun W' hW' => ?_⟩) hS0 ?_
        · go_simp
        refine wpF_take (i := 3) (v := (.int .i64 (i : Int))) rfl (by kernel_rfl) (by kernel_rfl) (by kernel_rfl) (by kernel_rfl) (fun _ _ _ h => h) (.inl ⟨rfl, fun W' hW' => ?_⟩) hS0 ?_
        · go_simp
        refine wpF_take (i := 4) (v := (.int .i64 (n : Int))) rfl (by kernel_rfl) (by kernel_rfl) (by kernel_rfl) (by kernel_rfl) (fun _ _ _ h => h) (.inl ⟨rfl, fun W' hW' => ?_⟩) hS0 ?_
        · go_simp
        refine wpF_take (i := 5) (v := (.int .i64 (m : Int))) rfl (by kernel_rfl) (by kernel_rfl) (by kernel_rfl) (by kernel_rfl) (fun _ _ _ h => h) (.inl ⟨rfl, fun W' hW' => ?_⟩) hS0 ?_
        · go_simp
        refine wpF_take (i := 9) (v := (.int .i64 (i : Int))) rfl (by kernel_rfl) (by kernel_rfl) (by kernel_rfl) (by kernel_rfl) (fun _ _ _ h => h) (.inl ⟨rfl, fun W' hW' => ?_⟩) hS0 ?_
        · go_simp
        refine wpF_take (i := 12) (v := (.int .i64 (i : Int))) rfl (by kernel_rfl) (by kernel_rfl) (by kernel_rfl) (by kernel_rfl) (fun _ _ _ h => h) (.inl ⟨rfl, fun W' hW' => ?_⟩) hS0 ?_
        · go_simp
        refine wpF_take (i := 13) (v := (.int .i64 (k : Int))) rfl (by kernel_rfl) (by kernel_rfl) (by kernel_rfl) (by kernel_rfl) (fun _ _ _ h => h) (.inl ⟨rfl, fun W' hW' => ?_⟩) hS0 ?_
        · go_simp
        refine wpF_take (i := 14) (v := (.int .i64 ((k : Int) + 1))) rfl (by kernel_rfl) (by kernel_rfl) (by kernel_rfl) (by kernel_rfl) (fun _ _ _ h => h) (.inl ⟨rfl, fun W' hW' => ?_⟩) hS0 ?_
        · go_simp
          rw [IntKind.wrap_i64]; omega
        refine wpF_take (i := 15) (v := (.int .i64 (q : Int))) rfl (by kernel_rfl) (by kernel_rfl) (by kernel_rfl) (by kernel_rfl) (fun _ _ _ h => h) (.inl ⟨rfl, fun W' hW' => ?_⟩) hS0 ?_
        · go_simp
        refine wpF_take (i := 16) (v := (.bool ((q : Int) == 0))) rfl (by kernel_rfl) (by kernel_rfl) (by kernel_rfl) (by kernel_rfl) (fun _ _ _ h => h) (.inl ⟨rfl, fun W' hW' => ?_⟩) hS0 ?_
        · go_simp
        refine wpF_step (k := 2) rfl (by kernel_rfl) rfl fun K hK => ?_
        go_simp
        refine (alphabet_any n hn8 _).mono ?_
        rintro e z1 ⟨v1, rfl, hSo, hz1⟩
        obtain ⟨sa, sm, sc, hsm, rfl, hS⟩ := OwnK.rdn Snd.len hSo
        have hsk : sm = n := by rw [hsm, alph_len]
        rw [hsk] at hS
        rw [hsk]
        clear hsm hsk hSo
        replace hS0 := Ext.trans hS0 hz1
        refine hK _ _ hS0 ?_
        clear hK K hz1
        obtain ⟨b, off, s, hsa, hsx, hbl, hc1, hc2⟩ := hS.snd hmn
        cases hsa
        have hmi : (m : Int) < (n : Int) := by omega
        refine wpF_step (k := 6) rfl (by kernel_rfl) rfl fun K hK => ?_
        go_simp
        refine hK _ _ hS0 ?_
        clear hK K
        refine wpF_step (k := 7) rfl (by kernel_rfl) rfl fun K hK => ?_
        go_simp
        refine hK _ _ hS0 ?_
        clear hK K hc1 hc2
        refine wpF_step (k := 8) rfl (by kernel_rfl) rfl fun K hK => ?_
        go_simp
        generalize hW : World.alloc z1 _ = z2
        have hz2 : Ext z1 z2 := by rw [← hW]; exact Ext.alloc1 _ _
        have hL : RdS z2 (some ⟨z1.heap.size, 0, none⟩) 1 1 [s] := rd_block (b := z1.heap.size) Snd.len (by rw [← hW]; exact World.alloc_heap_new z1 _) rfl rfl (by unfold maxLen; omega)
        clear hW
        replace hS0 := Ext.trans hS0 hz2
        refine hK _ _ hS0 ?_
        clear hK K hz2 hS
        generalize z1.heap.size = g3 at *
        refine wpF_step (k := 10) rfl (by kernel_rfl) rfl fun K hK => ?_
        go_simp
        refine (rep_any g3 i s _ hL (by omega)).mono ?_
        rintro e z3 ⟨v3, rfl, hRo, hz3⟩
        obtain ⟨ra, rm, rc, hrm, rfl, hR⟩ := OwnK.rdn Snd.len hRo
        replace hS0 := Ext.trans hS0 hz3
        refine hK _ _ hS0 ?_
        clear hK K hz3 hRo hL
        have hac := accepts_any (timA k n) (timA_ok hn8) z3 bt (hTr.out _ hS0) ra rm rc _ hR
        rw [timA_acc hn8 (fun x hx => by rw [List.eq_of_mem_replicate hx]; exact List.mem_of_getElem? hsx.out) (by rw [List.length_replicate]; omega), List.length_replicate, ← hq.out, show (q == 0) = ((q : Int) == 0) by rw [Bool.eq_iff_iff]; simp] at hac
        replace hrm := Lib.hid hrm
        refine wpF_step (k := 11) rfl (by kernel_rfl) rfl fun K hK => ?_
        go_simp
        refine hac.mono ?_
        rintro e z4 ⟨rfl, hz4⟩
        replace hS0 := Ext.trans hS0 hz4
        refine hK _ _ hS0 ?_
        clear hK K hz4 hac
        refine wpF_take (i := 17) (v := (.bool false)) rfl (by kernel_rfl) (by kernel_rfl) (by kernel_rfl) (by kernel_rfl) (fun _ _ _ h => h) (.inl ⟨rfl, fun W' hW' => ?_⟩) hS0 ?_
        · go_simp
        refine ⟨by kernel_rfl, ?_⟩
        replace hxr := hxr.trans hS0
        clear hS0 hR
        go_wp2_with fail
        (first | exact ⟨⟨i + 1, hlt, by go_num, hxr⟩, (by simp [intOf]; omega)⟩ | (go_roundw; case rel => exact ⟨i + 1, hlt, by go_num, hxr⟩; case measure => exact (by simp [intOf]; omega)))
      · obtain rfl : i = 33 := by omega
        replace hx := hx.trans hxr
        replace hT := hT.ext hxr
        replace l0 := Ext.cellv hxr l0
        replace l1 := Ext.cellv hxr l1
        clear hxr
        go_wp2_with fail
        have hxm := Ext.alloc1 wr (.cells (madeCells #[.int .u32 0, .int .u32 0] 66) 24)
        have hac := accepts_any (timA k n) (timA_ok hn8) _ bt (hT.ext hxm) (some ⟨wr.heap.size, 0, none⟩) 33 33 _ (mk_rd wr (k := 33) (by decide))
        rw [acc_long (by simp)] at hac
        refine hac.mono ?_
        rintro e y1 ⟨rfl, hy1⟩
        replace hy1 := hxm.trans hy1
        replace hx := hx.trans hy1
        replace hT := hT.ext hy1
        replace l0 := Ext.cellv hy1 l0
        replace l1 := Ext.cellv hy1 l1
        clear hy1 hac hxm
        go_wp2_with fail
        have hml : (timA k n).madeB = true := by unfold Au.madeB; rw [(timA_len k n).1]; simp
        refine (not_any (timA k n) hml (by rw [(timA_len k n).1, (timA_len k n).2]) (by rw [(timA_len k n).1]; omega) _ bt hT).mono ?_
        rintro e y2 ⟨bn, rfl, hN, hy2⟩
        replace hx := hx.trans hy2
        replace l0 := Ext.cellv hy2 l0
        replace l1 := Ext.cellv hy2 l1
        clear hy2 hT hml
        go_wp2_with fail
        refine (alphabet_any n hn8 _).mono ?_
        rintro e y3 ⟨v3, rfl, hSo, hy3⟩
        obtain ⟨sa, sm, sc, hsm, rfl, hS⟩ := OwnK.rdn Snd.len hSo
        have hsk : sm = n := by rw [hsm, alph_len]
        rw [hsk] at hS
        rw [hsk]
        clear hsm hsk hSo
        obtain ⟨b, off, s, hsa, hsx, hbl, hc1, hc2⟩ := hS.snd (i := 0) (by omega)
        cases hsa
        simp only [Nat.zero_mul, Nat.add_zero] at hc1 hc2
        replace hx := hx.trans hy3
        replace hN := hN.ext hy3
        replace l0 := Ext.cellv hy3 l0
        replace l1 := Ext.cellv hy3 l1
        clear hy3 hS
        have hni : (0 : Int) < (n : Int) := by omega
        have hnn : 0 < n := by omega
        go_wp2_with fail
        clear hc1 hc2
        have hL : RdS (y3.alloc (.cells #[.int .u32 s.p.toNat, .int .u32 s.m.toNat] 24)) (some ⟨y3.heap.size, 0, none⟩) 1 1 [s] := rd_block (b := y3.heap.size) (xs := [s]) (n := 1) Snd.len (World.alloc_heap_new y3 (.cells #[.int .u32 s.p.toNat, .int .u32 s.m.toNat] 24)) rfl rfl (by unfold maxLen; omega)
        have hz := Ext.alloc1 y3 (.cells #[.int .u32 s.p.toNat, .int .u32 s.m.toNat] 24)
        refine (rep_any _ 33 s _ hL (by omega)).mono ?_
        rintro e y4 ⟨v4, rfl, hRo, hy4⟩
        obtain ⟨ra, rm, rc, hrm, rfl, hR⟩ := OwnK.rdn Snd.len hRo
        replace hy4 := hz.trans hy4
        replace hx := hx.trans hy4
        replace hN := hN.ext hy4
        replace l0 := Ext.cellv hy4 l0
        replace l1 := Ext.cellv hy4 l1
        clear hy4 hz hL hRo
        have hac := accepts_any (notM (timA k n)) (notG_ok (timA_ok hn8)) _ bn hN ra rm rc _ hR
        rw [acc_long (by simp)] at hac
        replace hrm := Lib.hid hrm
        go_wp2_with fail
        refine hac.mono ?_
        rintro e y5 ⟨rfl, hy5⟩
        replace hx := hx.trans hy5
        replace l0 := Ext.cellv hy5 l0
        replace l1 := Ext.cellv hy5 l1
        clear hy5 hac hR hN
        go_wp2_with fail
        refine (sound_any ⟨0#32, 0#32⟩ _).mono ?_
        rintro e wa1 ⟨rfl, hw⟩
        have hxu := hw
        clear hw
        go_wp2_with fail
        refine (times_any _ 11 _ (oneP_rd ⟨0#32, 0#32⟩ _)).mono ?_
        rintro e wa2 ⟨f1, rfl, hP, hw⟩
        replace hxu := hxu.trans hw
        clear hw
        go_wp2_with fail
        refine (star_any _ _ hP).mono ?_
        rintro e wa3 ⟨f2, rfl, hP, hw⟩
        replace hxu := hxu.trans hw
        clear hw
        go_wp2_with fail
        refine (alphabet_any n hn8 _).mono ?_
        rintro e wa4 ⟨va4, rfl, hSo, hw⟩
        obtain ⟨saa4, sm, sca4, hsm, rfl, hS⟩ := OwnK.rdn Snd.len hSo
        have hsk : sm = n := by rw [hsm, alph_len]
        rw [hsk] at hS
        rw [hsk]
        clear hsm hsk hSo
        replace hP := hP.ext hw
        replace hxu := hxu.trans hw
        clear hw
        go_wp2_with fail
        refine (buildR_any (h := timP 11 (some ⟨f1, 0, none⟩) (some ⟨f2, 0, none⟩)) (ref11 _ _).1 (ref11 _ _).2.1 hP hS (r := 12) (by rw [(ref11 _ _).2.2, alph_ref hn8, if_pos (by decide)]) (by decide)).mono ?_
        rintro e wa5 ⟨rfl, hw⟩
        replace hxu := hxu.trans hw
        replace hx := hx.trans hxu
        replace l0 := Ext.cellv hxu l0
        replace l1 := Ext.cellv hxu l1
        clear hxu hw hP hS
        go_wp2_with fail
        refine (sound_any ⟨1#32, 0#32⟩ _).mono ?_
        rintro e wb1 ⟨rfl, hw⟩
        have hxu := hw
        clear hw
        go_wp2_with fail
        refine (times_any _ 3 _ (oneP_rd ⟨1#32, 0#32⟩ _)).mono ?_
        rintro e wb2 ⟨f3, rfl, hP, hw⟩
        replace hxu := hxu.trans hw
        clear hw
        go_wp2_with fail
        refine (times_any _ 4 _ hP).mono ?_
        rintro e wb3 ⟨f4, rfl, hP, hw⟩
        replace hxu := hxu.trans hw
        clear hw
        go_wp2_with fail
        refine (alphabet_any n hn8 _).mono ?_
        rintro e wb4 ⟨vb4, rfl, hSo, hw⟩
        obtain ⟨sab4, sm, scb4, hsm, rfl, hS⟩ := OwnK.rdn Snd.len hSo
        have hsk : sm = n := by rw [hsm, alph_len]
        rw [hsk] at hS
        rw [hsk]
        clear hsm hsk hSo
        replace hP := hP.ext hw
        replace hxu := hxu.trans hw
        clear hw
        go_wp2_with fail
        refine (buildR_any (h := manyP (some ⟨f3, 0, none⟩) (some ⟨f4, 0, none⟩)) (ref12 _ _).1 (ref12 _ _).2.1 hP hS (r := 12) (by rw [(ref12 _ _).2.2, alph_ref hn8, if_pos (by decide)]) (by decide)).mono ?_
        rintro e wb5 ⟨rfl, hw⟩
        replace hxu := hxu.trans hw
        replace hx := hx.trans hxu
        clear hxu hw hP hS l0 l1
        go_wp2_with fail
        refine (times_any begP 32 _ (beg_rd _)).mono ?_
        rintro e wc1 ⟨f5, rfl, hP, hw⟩
        have hxu := hw
        clear hw
        go_wp2_with fail
        refine (times_any _ 32 _ hP).mono ?_
        rintro e wc2 ⟨f6, rfl, hP, hw⟩
        replace hxu := hxu.trans hw
        clear hw
        go_wp2_with fail
        refine (alphabet_any n hn8 _).mono ?_
        rintro e wc3 ⟨vc3, rfl, hSo, hw⟩
        obtain ⟨sac3, sm, scc3, hsm, rfl, hS⟩ := OwnK.rdn Snd.len hSo
        have hsk : sm = n := by rw [hsm, alph_len]
        rw [hsk] at hS
        rw [hsk]
        clear hsm hsk hSo
        replace hP := hP.ext hw
        replace hxu := hxu.trans hw
        clear hw
        go_wp2_with fail
        refine (built_any (beg_built (by omega) hn8 (some ⟨f5, 0, none⟩) (some ⟨f6, 0, none⟩)) hP hS).mono ?_
        rintro e wc4 ⟨bc, rfl, hC, hw⟩
        replace hxu := hxu.trans hw
        replace hx := hx.trans hxu
        clear hxu hw hP hS hC
        go_wp2_with fail
        refine (works_any _).mono ?_
        rintro e wd ⟨rfl, hw⟩
        replace hx := hx.trans hw
        clear hw
        go_wp2_with fail
        go_ret
        exact ⟨rfl, hx⟩
  · have eg : grE k = 0 := by unfold grE; rw [if_neg h9]
    obtain ⟨hk8, b9, rfl, hA⟩ : k ≤ 8 ∧ ∃ b, p9 = some ⟨b, 0, none⟩ ∧ AuAt x9 b (winL ⟨1#32, 0#32⟩ k n) := by
      rcases hG with h | h
      · exact absurd h.1 h9
      · exact h
    have hst := fun W (hW : Ext x9 W) => states_any (winL ⟨1#32, 0#32⟩ k n) W b9 (hA.ext hW)
    rw [winL_len _ k n (by omega)] at hst
    have d9 : decide ((k : Int) = 9) = false := decide_eq_false (by omega)
    have hki : ¬ ((k : Int) = 9) := by omega
    clear hG
    rw [eg]
    have ek : IntKind.i64.wrap (2 * (2 : Int) ^ k) = 2 * 2 ^ k := by
      have h1 : (2 : Int) ^ k = ((2 ^ k : Nat) : Int) := by simp
      have h2 : 2 ^ k ≤ 2 ^ 8 := Nat.pow_le_pow_right (by omega) hk8
      rw [h1]
      generalize 2 ^ k = q at *
      rw [IntKind.wrap_i64]; omega
    have hk63 : (k : Int) < 63 := by omega
    go_wp2_with fail
    refine wp_region_F (fun W' : World => Ext x9 W') [0, 1, 2, 3, 5, 6, 7, 8] (by kernel_rfl) ?_
    show wpF _ _ _ _ _ _ 9 _ _ _
    have hS0 : (fun W' : World => Ext x9 W') x9.drew := (Ext.refl _).drew
    refine wpF_take (i := 0) (v := (.int .i64 0)) rfl (by kernel_rfl) (by kernel_rfl) (by kernel_rfl) (by kernel_rfl) (fun _ _ _ h => h) (.inl ⟨rfl, fun W' hW' => ?_⟩) hS0 ?_
    · go_simp
    refine wpF_take (i := 1) (v := (.bool false)) rfl (by kernel_rfl) (by kernel_rfl) (by kernel_rfl) (by kernel_rfl) (fun _ _ _ h => h) (.inl ⟨rfl, fun W' hW' => ?_⟩) hS0 ?_
    · go_simp
    refine wpF_take (i := 2) (v := (.bool false)) rfl (by kernel_rfl) (by kernel_rfl) (by kernel_rfl) (by kernel_rfl) (fun _ _ _ h => h) (.inl ⟨rfl, fun W' hW' => ?_⟩) hS0 ?_
    · go_simp
    refine wpF_take (i := 3) (v := (.pointer (some ⟨b9, 0, none⟩))) rfl (by kernel_rfl) (by kernel_rfl) (by kernel_rfl) (by kernel_rfl) (fun _ _ _ h => h) (.inl ⟨rfl, fun W' hW' => ?_⟩) hS0 ?_
    · go_simp
    refine wpF_take (i := 5) (v := (.int .i64 (k : Int))) rfl (by kernel_rfl) (by kernel_rfl) (by kernel_rfl) (by kernel_rfl) (fun _ _ _ h => h) (.inl ⟨rfl, fun W' hW' => ?_⟩) hS0 ?_
    · go_simp
    refine wpF_take (i := 6) (v := (.int .i64 ((2 * 2 ^ k : Nat) : Int))) rfl (by kernel_rfl) (by kernel_rfl) (by kernel_rfl) (by kernel_rfl) (fun _ _ _ h => h) (.inl ⟨rfl, fun W' hW' => ?_⟩) hS0 ?_
    · go_simp
    refine wpF_step (k := 4) rfl (by kernel_rfl) rfl fun K hK => ?_
    go_simp
    refine (hst _ hS0).mono ?_
    rintro e y1 ⟨rfl, hy1⟩
    replace hS0 := Ext.trans hS0 hy1
    refine hK _ _ hS0 ?_
    clear hK K hy1
    refine wpF_take (i := 7) (v := (.bool false)) rfl (by kernel_rfl) (by kernel_rfl) (by kernel_rfl) (by kernel_rfl) (fun _ _ _ h => h) (.inl ⟨rfl, fun W' hW' => ?_⟩) hS0 ?_
    · go_simp
    refine wpF_take (i := 8) (v := (.bool false)) rfl (by kernel_rfl) (by kernel_rfl) (by kernel_rfl) (by kernel_rfl) (fun _ _ _ h => h) (.inl ⟨rfl, fun W' hW' => ?_⟩) hS0 ?_
    · go_simp
    refine ⟨by kernel_rfl, ?_⟩
    replace hx := hx.trans hS0
    replace l0 := Ext.cellv hS0 l0
    replace l1 := Ext.cellv hS0 l1
    clear hS0 hst hA
    go_wp2_with fail
    refine (sound_any ⟨0#32, 0#32⟩ _).mono ?_
    rintro e u1 ⟨rfl, hu1⟩
    go_wp2_with fail
    refine (times_any _ ((k + 1 : Nat) : Int) _ (oneP_rd ⟨0#32, 0#32⟩ _)).mono ?_
    rintro e u2 ⟨f1, rfl, hP, hu2⟩
    go_wp2_with fail
    refine (star_any _ _ hP).mono ?_
    rintro e u3 ⟨f2, rfl, hP, hu3⟩
    go_wp2_with fail
    refine (alphabet_any n hn8 _).mono ?_
    rintro e u4 ⟨v4, rfl, hSo, hu4⟩
    obtain ⟨sb, sm, sd, hsm, rfl, hS⟩ := OwnK.rdn Snd.len hSo
    have hsk : sm = n := by rw [hsm, alph_len]
    rw [hsk] at hS
    rw [hsk]
    clear hsm hsk hSo
    replace hP : RdPt u4 (timP (k + 1) (some ⟨f1, 0, none⟩) (some ⟨f2, 0, none⟩)) := hP.ext hu4
    have hxu := (hu1.trans hu2).trans (hu3.trans hu4)
    go_wp2_with fail
    refine (built_any (tim_built (by omega) hn2 hn8 (some ⟨f1, 0, none⟩) (some ⟨f2, 0, none⟩)) hP hS).mono ?_
    rintro e u5 ⟨bt, rfl, hT, hu5⟩
    replace hxu := hxu.trans hu5
    replace hx := hx.trans hxu
    replace l0 := Ext.cellv hxu l0
    replace l1 := Ext.cellv hxu l1
    clear hxu hu1 hu2 hu3 hu4 hu5 hP hS
    have el := (timA_len k n).1
    have hst := states_any (timA k n) u5 bt hT
    rw [el] at hst
    clear el
    go_wp2_with fail
    refine hst.mono ?_
    rintro e u6 ⟨rfl, hu6⟩
    replace hx := hx.trans hu6
    replace hT := hT.ext hu6
    replace l0 := Ext.cellv hu6 l0
    replace l1 := Ext.cellv hu6 l1
    clear hu6 hst
    go_wp2_with fail
    have hn0 : ¬ (n = 0) := by omega
    have hmk : ∀ W, (Instr.makeSlice 28 (.int .i64 33) (.int .i64 33)).run Try.prog W = .ok (.slice (some ⟨W.heap.size, 0, none⟩) 33 33) (W.alloc (.cells (madeCells (Value.agg #[.int .u32 0, .int .u32 0]).cells (33 * 2)) 24)) := fun W => run_mk (k := 2) (P := Try.prog) 28 Try.underlying28 info_snd 33 (by omega) (by decide) W
    have hk0 : ¬ ((k : Int) + 1 = 0) := by omega
    go_loopw [82] (fun iv wr => ∃ i : Nat, i ≤ 33 ∧ iv = .int .i64 i ∧ Ext u6 wr) (fun iv _ => 33 - (intOf iv).toNat)
    case atStart => exact ⟨0, Nat.zero_le _, rfl, Ext.refl _⟩
    case round =>
      obtain ⟨i, hi, rfl, hxr⟩ := hrel
      by_cases hlt : i < 33
      · have hki : (i : Int) < 33 := by omega
        have hTr := fun W (hW : Ext wr W) => hT.ext (hxr.trans hW)
        obtain ⟨m, hm⟩ : ∃ m, m = i % n := ⟨_, rfl⟩
        obtain ⟨q, hq⟩ : ∃ q, q = i % (k + 1) := ⟨_, rfl⟩
        have em : (i : Int).tmod (n : Int) = (m : Int) := by rw [hm]; rfl
        have eq : (i : Int).tmod ((k : Int) + 1) = (q : Int) := by rw [hq]; rfl
        have hmn : m < n := by rw [hm]; exact Nat.mod_lt _ (by omega)
        replace hm := Lib.hid hm
        replace hq := Lib.hid hq
        replace hTr := Lib.hid hTr
        go_wp2_with fail
        refine wp_region_F (fun W' : World => Ext wr W') [0, 1, 3, 4, 5, 9, 12, 13, 14, 15, 16, 17] (by kernel_rfl) ?_
        show wpF _ _ _ _ _ _ 18 _ _ _
        have hS0 : (fun W' : World => Ext wr W') wr.drew := (Ext.refl _).drew
        refine wpF_take (i := 0) (v := (.pointer (some ⟨bt, 0, none⟩))) rfl (by kernel_rfl) (by kernel_rfl) (by kernel_rfl) (by kernel_rfl) (fun _ _ _ h => h) (.inl ⟨rfl, fun W' hW' => ?_⟩) hS0 ?_
        · go_simp
        refine wpF_take (i := 1) (v := (.int .i64 (n : Int))) rfl (by kernel_rfl) (by kernel_rfl) (by kernel_rfl) (by kernel_rfl) (fun _ _ _ h => h) (.inl ⟨rfl, fun W' hW' => ?_⟩) hS0 ?_
        · go_simp
        refine wpF_take (i := 3) (v := (.int .i64 (i : Int))) rfl (by kernel_rfl) (by kernel_rfl) (by kernel_rfl) (by kernel_rfl) (fun _ _ _ h => h) (.inl ⟨rfl, fun W' hW' => ?_⟩) hS0 ?_
        · go_simp
        refine wpF_take (i := 4) (v := (.int .i64 (n : Int))) rfl (by kernel_rfl) (by kernel_rfl) (by kernel_rfl) (by kernel_rfl) (fun _ _ _ h => h) (.inl ⟨rfl, fun W' hW' => ?_⟩) hS0 ?_
        · go_simp
        refine wpF_take (i := 5) (v := (.int .i64 (m : Int))) rfl (by kernel_rfl) (by kernel_rfl) (by kernel_rfl) (by kernel_rfl) (fun _ _ _ h => h) (.inl ⟨rfl, fun W' hW' => ?_⟩) hS0 ?_
        · go_simp
        refine wpF_take (i := 9) (v := (.int .i64 (i : Int))) rfl (by kernel_rfl) (by kernel_rfl) (by kernel_rfl) (by kernel_rfl) (fun _ _ _ h => h) (.inl ⟨rfl, fun W' hW' => ?_⟩) hS0 ?_
        · go_simp
        refine wpF_take (i := 12) (v := (.int .i64 (i : Int))) rfl (by kernel_rfl) (by kernel_rfl) (by kernel_rfl) (by kernel_rfl) (fun _ _ _ h => h) (.inl ⟨rfl, fun W' hW' => ?_⟩) hS0 ?_
        · go_simp
        refine wpF_take (i := 13) (v := (.int .i64 (k : Int))) rfl (by kernel_rfl) (by kernel_rfl) (by kernel_rfl) (by kernel_rfl) (fun _ _ _ h => h) (.inl ⟨rfl, fun W' hW' => ?_⟩) hS0 ?_
        · go_simp
        refine wpF_take (i := 14) (v := (.int .i64 ((k : Int) + 1))) rfl (by kernel_rfl) (by kernel_rfl) (by kernel_rfl) (by kernel_rfl) (fun _ _ _ h => h) (.inl ⟨rfl, fun W' hW' => ?_⟩) hS0 ?_
        · go_simp
          rw [IntKind.wrap_i64]; omega
        refine wpF_take (i := 15) (v := (.int .i64 (q : Int))) rfl (by kernel_rfl) (by kernel_rfl) (by kernel_rfl) (by kernel_rfl) (fun _ _ _ h => h) (.inl ⟨rfl, fun W' hW' => ?_⟩) hS0 ?_
        · go_simp
        refine wpF_take (i := 16) (v := (.bool ((q : Int) == 0))) rfl (by kernel_rfl) (by kernel_rfl) (by kernel_rfl) (by kernel_rfl) (fun _ _ _ h => h) (.inl ⟨rfl, fun W' hW' => ?_⟩) hS0 ?_
        · go_simp
        refine wpF_step (k := 2) rfl (by kernel_rfl) rfl fun K hK => ?_
        go_simp
        refine (alphabet_any n hn8 _).mono ?_
        rintro e z1 ⟨v1, rfl, hSo, hz1⟩
        obtain ⟨sa, sm, sc, hsm, rfl, hS⟩ := OwnK.rdn Snd.len hSo
        have hsk : sm = n := by rw [hsm, alph_len]
        rw [hsk] at hS
        rw [hsk]
        clear hsm hsk hSo
        replace hS0 := Ext.trans hS0 hz1
        refine hK _ _ hS0 ?_
        clear hK K hz1
        obtain ⟨b, off, s, hsa, hsx, hbl, hc1, hc2⟩ := hS.snd hmn
        cases hsa
        have hmi : (m : Int) < (n : Int) := by omega
        refine wpF_step (k := 6) rfl (by kernel_rfl) rfl fun K hK => ?_
        go_simp
        refine hK _ _ hS0 ?_
        clear hK K
        refine wpF_step (k := 7) rfl (by kernel_rfl) rfl fun K hK => ?_
        go_simp
        refine hK _ _ hS0 ?_
        clear hK K hc1 hc2
        refine wpF_step (k := 8) rfl (by kernel_rfl) rfl fun K hK => ?_
        go_simp
        generalize hW : World.alloc z1 _ = z2
        have hz2 : Ext z1 z2 := by rw [← hW]; exact Ext.alloc1 _ _
        have hL : RdS z2 (some ⟨z1.heap.size, 0, none⟩) 1 1 [s] := rd_block (b := z1.heap.size) Snd.len (by rw [← hW]; exact World.alloc_heap_new z1 _) rfl rfl (by unfold maxLen; omega)
        clear hW
        replace hS0 := Ext.trans hS0 hz2
        refine hK _ _ hS0 ?_
        clear hK K hz2 hS
        generalize z1.heap.size = g3 at *
        refine wpF_step (k := 10) rfl (by kernel_rfl) rfl fun K hK => ?_
        go_simp
        refine (rep_any g3 i s _ hL (by omega)).mono ?_
        rintro e z3 ⟨v3, rfl, hRo, hz3⟩
        obtain ⟨ra, rm, rc, hrm, rfl, hR⟩ := OwnK.rdn Snd.len hRo
        replace hS0 := Ext.trans hS0 hz3
        refine hK _ _ hS0 ?_
        clear hK K hz3 hRo hL
        have hac := accepts_any (timA k n) (timA_ok hn8) z3 bt (hTr.out _ hS0) ra rm rc _ hR
        rw [timA_acc hn8 (fun x hx => by rw [List.eq_of_mem_replicate hx]; exact List.mem_of_getElem? hsx.out) (by rw [List.length_replicate]; omega), List.length_replicate, ← hq.out, show (q == 0) = ((q : Int) == 0) by rw [Bool.eq_iff_iff]; simp] at hac
        replace hrm := Lib.hid hrm
        refine wpF_step (k := 11) rfl (by kernel_rfl) rfl fun K hK => ?_
        go_simp
        refine hac.mono ?_
        rintro e z4 ⟨rfl, hz4⟩
        replace hS0 := Ext.trans hS0 hz4
        refine hK _ _ hS0 ?_
        clear hK K hz4 hac
        refine wpF_take (i := 17) (v := (.bool false)) rfl (by kernel_rfl) (by kernel_rfl) (by kernel_rfl) (by kernel_rfl) (fun _ _ _ h => h) (.inl ⟨rfl, fun W' hW' => ?_⟩) hS0 ?_
        · go_simp
        refine ⟨by kernel_rfl, ?_⟩
        replace hxr := hxr.trans hS0
        clear hS0 hR
        go_wp2_with fail
        (first | exact ⟨⟨i + 1, hlt, by go_num, hxr⟩, (by simp [intOf]; omega)⟩ | (go_roundw; case rel => exact ⟨i + 1, hlt, by go_num, hxr⟩; case measure => exact (by simp [intOf]; omega)))
      · obtain rfl : i = 33 := by omega
        replace hx := hx.trans hxr
        replace hT := hT.ext hxr
        replace l0 := Ext.cellv hxr l0
        replace l1 := Ext.cellv hxr l1
        clear hxr
        go_wp2_with fail
        have hxm := Ext.alloc1 wr (.cells (madeCells #[.int .u32 0, .int .u32 0] 66) 24)
        have hac := accepts_any (timA k n) (timA_ok hn8) _ bt (hT.ext hxm) (some ⟨wr.heap.size, 0, none⟩) 33 33 _ (mk_rd wr (k := 33) (by decide))
        rw [acc_long (by simp)] at hac
        refine hac.mono ?_
        rintro e y1 ⟨rfl, hy1⟩
        replace hy1 := hxm.trans hy1
        replace hx := hx.trans hy1
        replace hT := hT.ext hy1
        replace l0 := Ext.cellv hy1 l0
        replace l1 := Ext.cellv hy1 l1
        clear hy1 hac hxm
        go_wp2_with fail
        have hml : (timA k n).madeB = true := by unfold Au.madeB; rw [(timA_len k n).1]; simp
        refine (not_any (timA k n) hml (by rw [(timA_len k n).1, (timA_len k n).2]) (by rw [(timA_len k n).1]; omega) _ bt hT).mono ?_
        rintro e y2 ⟨bn, rfl, hN, hy2⟩
        replace hx := hx.trans hy2
        replace l0 := Ext.cellv hy2 l0
        replace l1 := Ext.cellv hy2 l1
        clear hy2 hT hml
        go_wp2_with fail
        refine (alphabet_any n hn8 _).mono ?_
        rintro e y3 ⟨v3, rfl, hSo, hy3⟩
        obtain ⟨sa, sm, sc, hsm, rfl, hS⟩ := OwnK.rdn Snd.len hSo
        have hsk : sm = n := by rw [hsm, alph_len]
        rw [hsk] at hS
        rw [hsk]
        clear hsm hsk hSo
        obtain ⟨b, off, s, hsa, hsx, hbl, hc1, hc2⟩ := hS.snd (i := 0) (by omega)
        cases hsa
        simp only [Nat.zero_mul, Nat.add_zero] at hc1 hc2
        replace hx := hx.trans hy3
        replace hN := hN.ext hy3
        replace l0 := Ext.cellv hy3 l0
        replace l1 := Ext.cellv hy3 l1
        clear hy3 hS
        have hni : (0 : Int) < (n : Int) := by omega
        have hnn : 0 < n := by omega
        go_wp2_with fail
        clear hc1 hc2
        have hL : RdS (y3.alloc (.cells #[.int .u32 s.p.toNat, .int .u32 s.m.toNat] 24)) (some ⟨y3.heap.size, 0, none⟩) 1 1 [s] := rd_block (b := y3.heap.size) (xs := [s]) (n := 1) Snd.len (World.alloc_heap_new y3 (.cells #[.int .u32 s.p.toNat, .int .u32 s.m.toNat] 24)) rfl rfl (by unfold maxLen; omega)
        have hz := Ext.alloc1 y3 (.cells #[.int .u32 s.p.toNat, .int .u32 s.m.toNat] 24)
        refine (rep_any _ 33 s _ hL (by omega)).mono ?_
        rintro e y4 ⟨v4, rfl, hRo, hy4⟩
        obtain ⟨ra, rm, rc, hrm, rfl, hR⟩ := OwnK.rdn Snd.len hRo
        replace hy4 := hz.trans hy4
        replace hx := hx.trans hy4
        replace hN := hN.ext hy4
        replace l0 := Ext.cellv hy4 l0
        replace l1 := Ext.cellv hy4 l1
        clear hy4 hz hL hRo
        have hac := accepts_any (notM (timA k n)) (notG_ok (timA_ok hn8)) _ bn hN ra rm rc _ hR
        rw [acc_long (by simp)] at hac
        replace hrm := Lib.hid hrm
        go_wp2_with fail
        refine hac.mono ?_
        rintro e y5 ⟨rfl, hy5⟩
        replace hx := hx.trans hy5
        replace l0 := Ext.cellv hy5 l0
        replace l1 := Ext.cellv hy5 l1
        clear hy5 hac hR hN
        go_wp2_with fail
        refine (sound_any ⟨0#32, 0#32⟩ _).mono ?_
        rintro e wa1 ⟨rfl, hw⟩
        have hxu := hw
        clear hw
        go_wp2_with fail
        refine (times_any _ 11 _ (oneP_rd ⟨0#32, 0#32⟩ _)).mono ?_
        rintro e wa2 ⟨f1, rfl, hP, hw⟩
        replace hxu := hxu.trans hw
        clear hw
        go_wp2_with fail
        refine (star_any _ _ hP).mono ?_
        rintro e wa3 ⟨f2, rfl, hP, hw⟩
        replace hxu := hxu.trans hw
        clear hw
        go_wp2_with fail
        refine (alphabet_any n hn8 _).mono ?_
        rintro e wa4 ⟨va4, rfl, hSo, hw⟩
        obtain ⟨saa4, sm, sca4, hsm, rfl, hS⟩ := OwnK.rdn Snd.len hSo
        have hsk : sm = n := by rw [hsm, alph_len]
        rw [hsk] at hS
        rw [hsk]
        clear hsm hsk hSo
        replace hP := hP.ext hw
        replace hxu := hxu.trans hw
        clear hw
        go_wp2_with fail
        refine (buildR_any (h := timP 11 (some ⟨f1, 0, none⟩) (some ⟨f2, 0, none⟩)) (ref11 _ _).1 (ref11 _ _).2.1 hP hS (r := 12) (by rw [(ref11 _ _).2.2, alph_ref hn8, if_pos (by decide)]) (by decide)).mono ?_
        rintro e wa5 ⟨rfl, hw⟩
        replace hxu := hxu.trans hw
        replace hx := hx.trans hxu
        replace l0 := Ext.cellv hxu l0
        replace l1 := Ext.cellv hxu l1
        clear hxu hw hP hS
        go_wp2_with fail
        refine (sound_any ⟨1#32, 0#32⟩ _).mono ?_
        rintro e wb1 ⟨rfl, hw⟩
        have hxu := hw
        clear hw
        go_wp2_with fail
        refine (times_any _ 3 _ (oneP_rd ⟨1#32, 0#32⟩ _)).mono ?_
        rintro e wb2 ⟨f3, rfl, hP, hw⟩
        replace hxu := hxu.trans hw
        clear hw
        go_wp2_with fail
        refine (times_any _ 4 _ hP).mono ?_
        rintro e wb3 ⟨f4, rfl, hP, hw⟩
        replace hxu := hxu.trans hw
        clear hw
        go_wp2_with fail
        refine (alphabet_any n hn8 _).mono ?_
        rintro e wb4 ⟨vb4, rfl, hSo, hw⟩
        obtain ⟨sab4, sm, scb4, hsm, rfl, hS⟩ := OwnK.rdn Snd.len hSo
        have hsk : sm = n := by rw [hsm, alph_len]
        rw [hsk] at hS
        rw [hsk]
        clear hsm hsk hSo
        replace hP := hP.ext hw
        replace hxu := hxu.trans hw
        clear hw
        go_wp2_with fail
        refine (buildR_any (h := manyP (some ⟨f3, 0, none⟩) (some ⟨f4, 0, none⟩)) (ref12 _ _).1 (ref12 _ _).2.1 hP hS (r := 12) (by rw [(ref12 _ _).2.2, alph_ref hn8, if_pos (by decide)]) (by decide)).mono ?_
        rintro e wb5 ⟨rfl, hw⟩
        replace hxu := hxu.trans hw
        replace hx := hx.trans hxu
        clear hxu hw hP hS l0 l1
        go_wp2_with fail
        refine (times_any begP 32 _ (beg_rd _)).mono ?_
        rintro e wc1 ⟨f5, rfl, hP, hw⟩
        have hxu := hw
        clear hw
        go_wp2_with fail
        refine (times_any _ 32 _ hP).mono ?_
        rintro e wc2 ⟨f6, rfl, hP, hw⟩
        replace hxu := hxu.trans hw
        clear hw
        go_wp2_with fail
        refine (alphabet_any n hn8 _).mono ?_
        rintro e wc3 ⟨vc3, rfl, hSo, hw⟩
        obtain ⟨sac3, sm, scc3, hsm, rfl, hS⟩ := OwnK.rdn Snd.len hSo
        have hsk : sm = n := by rw [hsm, alph_len]
        rw [hsk] at hS
        rw [hsk]
        clear hsm hsk hSo
        replace hP := hP.ext hw
        replace hxu := hxu.trans hw
        clear hw
        go_wp2_with fail
        refine (built_any (beg_built (by omega) hn8 (some ⟨f5, 0, none⟩) (some ⟨f6, 0, none⟩)) hP hS).mono ?_
        rintro e wc4 ⟨bc, rfl, hC, hw⟩
        replace hxu := hxu.trans hw
        replace hx := hx.trans hxu
        clear hxu hw hP hS hC
        go_wp2_with fail
        refine (works_any _).mono ?_
        rintro e wd ⟨rfl, hw⟩
        replace hx := hx.trans hw
        clear hw
        go_wp2_with fail
        go_ret
        exact ⟨rfl, hx⟩
end Go.Proofs.Ytilkemdecenibaa
