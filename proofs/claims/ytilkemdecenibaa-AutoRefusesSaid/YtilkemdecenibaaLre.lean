/-
  AutoRefuses: the walk.
-/
import Derived.Test.YtilkemdecenibaaNz
import Derived.Test.YtilkemdecenibaaGb
import Derived.Test.YtilkemdecenibaaGd
import Derived.Test.YtilkemdecenibaaBf
import Derived.Test.YtilkemdecenibaaOs
namespace Go.Proofs.Ytilkemdecenibaa
open Go.RowKit Go.Maps
theorem seq_stop {P : Program} {A B : Code} {Q : Exit → Act → World → Prop} {a : Act} {w : World} (h : ∀ K : Act → World → Prop, Hid (∀ a w, Code.wp P B Q a w → K a w) → Code.wp P A (Exit.then K Q) a w) : Code.wp P (A.seq B) Q a w :=
  wp_seq (h _ (Lib.hid fun _ _ h => h))
theorem wpF_two {P : Program} {ops : Array Oper} {Q : Exit → Act → World → Prop} {md : Region.Mode} {S : World → Prop} {I : List Nat} {j k : Nat} {oj ok : Oper} {fuel : Nat} {listed : Array Bool} {a : Act} {w : World} (hj : ops[j]? = some oj) (hk : ops[k]? = some ok) (hr : Region.ready md ops listed = [j, k])
    (hwj : Region.wanted oj (yielded ops a.tmps) = true) (hwk : Region.wanted ok (yielded ops a.tmps) = true)
    (h1 : ∀ K : Act → World → Prop, (∀ a w, S w → wpF P md ops Q S I fuel (listed.setIfInBounds j true) a w → K a w) → oj.wp P a w K Q)
    (h2 : ∀ K : Act → World → Prop, (∀ a w, S w → wpF P md ops Q S I fuel (listed.setIfInBounds k true) a w → K a w) → ok.wp P a w K Q) : wpF P md ops Q S I (fuel + 1) listed a w := by
  refine ⟨fun h => (by rw [hr] at h; cases h), fun i hi => ?_⟩
  rw [hr] at hi
  rcases List.mem_cons.1 hi with rfl | hi
  · unfold wpOp
    simp only [hj]
    rw [if_pos hwj]
    exact .inl (h1 _ fun a w h1 h2 => ⟨fun _ _ _ => h1, h2⟩)
  · obtain rfl : i = k := by simpa using hi
    unfold wpOp
    simp only [hk]
    rw [if_pos hwk]
    exact .inl (h2 _ fun a w h1 h2 => ⟨fun _ _ _ => h1, h2⟩)
/-- Three lists of the call's own. -/
structure L3 (w5 W : World) (g1 c1 : Nat) (x1 : List Snd) (g2 c2 : Nat) (x2 : List Snd) (g3 c3 : Nat) (x3 : List Snd) : Prop where
  o1 : OwnS w5.heap.size 24 W (.slice (some ⟨g1, 0, none⟩) 8 c1) x1
  o2 : OwnS w5.heap.size 24 W (.slice (some ⟨g2, 0, none⟩) 8 c2) x2
  o3 : OwnS w5.heap.size 24 W (.slice (some ⟨g3, 0, none⟩) 8 c3) x3
  n12 : g1 ≠ g2
  n13 : g1 ≠ g3
  n23 : g2 ≠ g3
  ext : Ext w5 W
def put2 (W : World) (g i : Nat) (z : Snd) : World := (W.setCell ⟨g, i * 2, none⟩ (.int .u32 z.p.toNat)).setCell ⟨g, i * 2 + 1, none⟩ (.int .u32 z.m.toNat)
theorem ext_put2 {w W : World} (h : Ext w W) {g : Nat} (hg : w.heap.size ≤ g) (i : Nat) (z : Snd) : Ext w (put2 W g i z) := ext_set (ext_set h hg _ _) hg _ _
theorem own_put2 {B g c : Nat} {W : World} {xs : List Snd} (h : OwnS B 24 W (.slice (some ⟨g, 0, none⟩) 8 c) xs) {i : Nat} (hi : i < 8) (z : Snd) : OwnS B 24 (put2 W g i z) (.slice (some ⟨g, 0, none⟩) 8 c) (xs.set i z) := by
  have hl := (own_ge h).2.2.1
  have hx : xs[i]? = some xs[i] := List.getElem?_eq_getElem (by omega)
  exact own_store2 Snd.len h (y := ⟨z.p, (xs[i]).m⟩) (z := z) hx rfl rfl
theorem own_put2_off {B g b n c : Nat} {W : World} {xs : List Snd} (h : OwnS B 24 W (.slice (some ⟨g, 0, none⟩) n c) xs) (hb : g ≠ b) (i : Nat) (z : Snd) : OwnS B 24 (put2 W b i z) (.slice (some ⟨g, 0, none⟩) n c) xs :=
  own_setOff (own_setOff h (fun e => hb (by injection e))) (fun e => hb (by injection e))
section
variable {w5 W : World} {g1 c1 g2 c2 g3 c3 : Nat} {x1 x2 x3 : List Snd}
theorem L3.put1 (h : L3 w5 W g1 c1 x1 g2 c2 x2 g3 c3 x3) {i : Nat} (hi : i < 8) (z : Snd) : L3 w5 (put2 W g1 i z) g1 c1 (x1.set i z) g2 c2 x2 g3 c3 x3 :=
  ⟨own_put2 h.o1 hi z, own_put2_off h.o2 h.n12.symm i z, own_put2_off h.o3 h.n13.symm i z, h.n12, h.n13, h.n23, ext_put2 h.ext (own_ge h.o1).1 i z⟩
theorem L3.put2 (h : L3 w5 W g1 c1 x1 g2 c2 x2 g3 c3 x3) {i : Nat} (hi : i < 8) (z : Snd) : L3 w5 (put2 W g2 i z) g1 c1 x1 g2 c2 (x2.set i z) g3 c3 x3 :=
  ⟨own_put2_off h.o1 h.n12 i z, own_put2 h.o2 hi z, own_put2_off h.o3 h.n23.symm i z, h.n12, h.n13, h.n23, ext_put2 h.ext (own_ge h.o2).1 i z⟩
theorem L3.put3 (h : L3 w5 W g1 c1 x1 g2 c2 x2 g3 c3 x3) {i : Nat} (hi : i < 8) (z : Snd) : L3 w5 (Go.Proofs.Ytilkemdecenibaa.put2 W g3 i z) g1 c1 x1 g2 c2 x2 g3 c3 (x3.set i z) :=
  ⟨own_put2_off h.o1 h.n13 i z, own_put2_off h.o2 h.n23 i z, own_put2 h.o3 hi z, h.n12, h.n13, h.n23, ext_put2 h.ext (own_ge h.o3).1 i z⟩
end
theorem own_cell2 {B g c : Nat} {W : World} {xs : List Snd} (h : OwnS B 24 W (.slice (some ⟨g, 0, none⟩) 8 c) xs) {i : Nat} (hi : i < 8) : W.cell? ⟨g, i * 2, none⟩ = some (.int .u32 (xs.getD i zS).p.toNat) ∧ W.cell? ⟨g, i * 2 + 1, none⟩ = some (.int .u32 (xs.getD i zS).m.toNat) := by
  have hl := (own_ge h).2.2.1
  have hx : xs[i]? = some (xs.getD i zS) := by rw [List.getD_eq_getElem?_getD, List.getElem?_eq_getElem (by omega)]; rfl
  exact ⟨own_at Snd.len h hx (j := 0) rfl, own_at Snd.len h hx (j := 1) rfl⟩
set_option maxHeartbeats 16000000 in
set_option maxRecDepth 20000 in
theorem autoRefuses_any (c : Nat) (w : World) (hc : c < 256) : Calls Try.prog 6 #[.int .u8 (c : Int)] w fun e w' => e = .returned (.bool true) ∧ Ext w w' := by
  obtain ⟨k, hk⟩ : ∃ k, k = c % 7 := ⟨_, rfl⟩
  have hk7 : k < 7 := by omega
  have e1 : (c : Int) % 7 = (k : Int) := by omega
  replace hk := Lib.hid hk
  go_enter Try.func6, Try.ntmps6
  go_wp2_with fail
  refine (sound_any ⟨1#32, 0#32⟩ w).mono ?_
  rintro e w1 ⟨rfl, hx1⟩
  go_wp2_with fail
  refine (star_any _ _ (oneP_rd ⟨1#32, 0#32⟩ _)).mono ?_
  rintro e w2 ⟨bs, rfl, hP, hx2⟩
  have hx := hx1.trans hx2
  clear hx1 hx2
  go_wp2_with fail
  have hB := PatB.new w2 (strP (some ⟨bs, 0, none⟩))
  have hxb := Ext.alloc1 w2 (.cells #[.int .i64 (strP (some ⟨bs, 0, none⟩)).kind, .int .u32 (strP (some ⟨bs, 0, none⟩)).is.p.toNat, .int .u32 (strP (some ⟨bs, 0, none⟩)).is.m.toNat, .bool (strP (some ⟨bs, 0, none⟩)).neg, .int .i64 (strP (some ⟨bs, 0, none⟩)).mn, .int .i64 (strP (some ⟨bs, 0, none⟩)).mx, .slice (strP (some ⟨bs, 0, none⟩)).a (strP (some ⟨bs, 0, none⟩)).n (strP (some ⟨bs, 0, none⟩)).cap] 27)
  generalize hb3 : w2.heap.size = B3 at *
  replace hb3 := Lib.hid hb3
  refine (alphabet_any 8 (by decide) _).mono ?_
  rintro e w3 ⟨v3, rfl, hSo, hx3⟩
  obtain ⟨sa, sn, sc, hsn, rfl, hS⟩ := OwnK.rdn Snd.len hSo
  have hsk : sn = 8 := by rw [hsn, alph_len]
  obtain ⟨gS, rfl⟩ := own_some hSo (by decide)
  rw [hsk] at hS
  rw [hsk]
  clear hsn hsk hSo
  replace hB := hB.ext hx3
  replace hP := hP.ext (hxb.trans hx3)
  replace hx := hx.trans (hxb.trans hx3)
  clear hxb hx3
  go_wp2_with fail
  refine (clone_any (some ⟨gS, 0, none⟩) 8 sc (alph 8) _ hS (by decide)).mono ?_
  rintro e w4 ⟨v4, rfl, hC4, hx4⟩
  obtain ⟨a4, n4, c4, hn4, rfl, _⟩ := OwnK.rdn Snd.len hC4
  replace hn4 := Lib.hid hn4
  have hl8 : (alph 8).length = 8 := rfl
  replace hl8 := Lib.hid hl8
  go_wp2_with (at_builtin; refine wp_appC w3 w4 ⟨8#32, 0#32⟩ #[.int .u32 8, .int .u32 0] rfl rfl _ _ 28 rfl 24 Try.underlying28 info_snd rfl (by decide) _ _ rfl hC4 hx4 rfl (Snd.len _) (Snd.one _) (by rw [hl8.out]; omega) (by unfold maxLen; rw [hl8.out]; omega) ?_; intro v5 w5 o5 x5)
  obtain ⟨a5, n5, c5, hn5, rfl, hN⟩ := OwnK.rdn Snd.len o5
  have h59 : n5 = 9 := by rw [hn5]; rfl
  rw [h59] at hN
  rw [h59]
  replace hN : RdS w5 a5 9 c5 nineS := hN
  replace hS := hS.ext x5
  replace hB := hB.ext x5
  replace hP := hP.ext x5
  replace hx := hx.trans x5
  clear hn5 h59 o5 x5 hx4 hC4 hl8 hn4
  refine (clone_any (some ⟨gS, 0, none⟩) 8 sc (alph 8) _ hS (by decide)).mono ?_
  rintro e w6 ⟨v6, rfl, h6, x6⟩
  obtain ⟨a6, n6, c6, hn6, rfl, _⟩ := OwnK.rdn Snd.len h6
  have h68 : n6 = 8 := by rw [hn6, alph_len]
  obtain ⟨g6, rfl⟩ := own_some h6 (by decide)
  rw [h68] at h6
  rw [h68]
  clear hn6 h68
  go_wp2_with fail
  refine (clone_any (some ⟨gS, 0, none⟩) 8 sc (alph 8) _ (hS.ext x6) (by decide)).mono ?_
  rintro e w7 ⟨v7, rfl, h7, x7⟩
  obtain ⟨a7, n7, c7, hn7, rfl, _⟩ := OwnK.rdn Snd.len h7
  have h78 : n7 = 8 := by rw [hn7, alph_len]
  obtain ⟨g7, rfl⟩ := own_some h7 (by decide)
  rw [h78] at h7
  rw [h78]
  clear hn7 h78
  go_wp2_with fail
  refine (clone_any (some ⟨gS, 0, none⟩) 8 sc (alph 8) _ (hS.ext (x6.trans x7)) (by decide)).mono ?_
  rintro e w8 ⟨v8, rfl, h8, x8⟩
  obtain ⟨a8, n8, c8, hn8, rfl, _⟩ := OwnK.rdn Snd.len h8
  have h88 : n8 = 8 := by rw [hn8, alph_len]
  obtain ⟨g8, rfl⟩ := own_some h8 (by decide)
  rw [h88] at h8
  rw [h88]
  clear hn8 h88
  have k6 := own_ge h6
  have k7 := own_ge h7
  have k8 := own_ge h8
  have hL : L3 w5 w8 g6 c6 (alph 8) g7 c7 (alph 8) g8 c8 (alph 8) :=
    ⟨(h6.kept (x7.trans x8)), OwnK.base (h7.kept x8) x6.le, OwnK.base h8 (x6.trans x7).le, by omega, by have := x7.le; omega, by omega, (x6.trans x7).trans x8⟩
  clear h6 h7 h8 k6 k7 k8 x6 x7 x8
  have q1 := own_free hL.o1
  have hki : (k : Int) + 1 < 8 := by omega
  have hkn : k + 1 < 8 := by omega
  obtain ⟨r1, r2⟩ := own_cell2 hL.o1 hkn
  rename (∀ (a : Act) (w : World), Code.wp Try.prog (Code.seq _ _) _ a w → _) => hK5
  replace hK5 := Lib.hid hK5
  go_wp2_with fail
  refine hK5.out _ _ ?_
  clear hK5
  refine seq_stop fun K6 hK6 => ?_
  go_wp2_with fail
  clear r1 r2 q1
  generalize hW : World.setCell (World.setCell w8 _ _) _ _ = W1
  have hL1 : L3 w5 W1 g6 c6 ((alph 8).set (k + 1) ⟨1#32, 1#32⟩) g7 c7 (alph 8) g8 c8 (alph 8) := by rw [← hW]; exact hL.put1 hkn ⟨1#32, 1#32⟩
  clear hW hL
  refine hK6.out _ _ ?_
  clear hK6
  refine seq_stop fun K7 hK7 => ?_
  obtain ⟨y, hy⟩ : ∃ y, y = ((alph 8).set (k + 1) ⟨1#32, 1#32⟩).getD 2 zS := ⟨_, rfl⟩
  have q1 := own_free hL1.o1
  have r1 : W1.cell? ⟨g6, 4, none⟩ = some (.int .u32 y.p.toNat) := by rw [hy]; exact (own_cell2 hL1.o1 (i := 2) (by decide)).1
  have r2 : W1.cell? ⟨g6, 5, none⟩ = some (.int .u32 y.m.toNat) := by rw [hy]; exact (own_cell2 hL1.o1 (i := 2) (by decide)).2
  obtain ⟨r3, r4⟩ := own_cell2 hL1.o1 (i := 0) (by decide)
  simp only [Nat.zero_mul, Nat.zero_add] at r3 r4
  replace hy := Lib.hid hy
  go_wp2_with fail
  clear r1 r2 q1 r3 r4
  generalize hW : World.setCell (World.setCell W1 _ _) _ _ = W2
  have hL2 : L3 w5 W2 g6 c6 (badS k) g7 c7 (alph 8) g8 c8 (alph 8) := by
    rw [← hW]
    have := hL1.put1 (i := 0) (by decide) y
    rw [hy.out] at this
    rw [hy.out]
    exact this
  clear hW hL1 hy
  refine hK7.out _ _ ?_
  clear hK7
  refine seq_stop fun K8 hK8 => ?_
  obtain ⟨z, hz⟩ : ∃ z, z = (alph 8).getD (k + 1) zS := ⟨_, rfl⟩
  have q1 := own_free hL2.o2
  obtain ⟨r1, r2⟩ := own_cell2 hL2.o2 hkn
  rw [← hz] at r1 r2
  obtain ⟨r3, r4⟩ := own_cell2 hL2.o2 (i := k) (by omega)
  replace hz := Lib.hid hz
  have hk8 : (k : Int) < 8 := by omega
  have hk8' : k < 8 := by omega
  go_wp2_with fail
  clear r1 r2 q1 r3 r4
  generalize hW : World.setCell (World.setCell W2 _ _) _ _ = W3
  have hL3 : L3 w5 W3 g6 c6 (badS k) g7 c7 (twiceS k) g8 c8 (alph 8) := by
    rw [← hW]
    have := hL2.put2 (i := k) hk8' z
    rw [hz.out] at this
    rw [hz.out]
    exact this
  clear hW hL2
  refine hK8.out _ _ ?_
  clear hK8
  refine seq_stop fun K9 hK9 => ?_
  obtain ⟨z1, hz1⟩ : ∃ z, z = (alph 8).getD (k + 1) zS := ⟨_, rfl⟩
  obtain ⟨z0, hz0⟩ : ∃ z, z = (alph 8).getD k zS := ⟨_, rfl⟩
  have hL3d : L3 w5 W3.drew g6 c6 (badS k) g7 c7 (twiceS k) g8 c8 (alph 8) := ⟨hL3.o1, hL3.o2, hL3.o3, hL3.n12, hL3.n13, hL3.n23, hL3.ext.drew⟩
  have q1 := own_free hL3d.o3
  obtain ⟨r1, r2⟩ := own_cell2 hL3d.o3 hkn
  obtain ⟨r3, r4⟩ := own_cell2 hL3d.o3 hk8'
  rw [← hz1] at r1 r2
  rw [← hz0] at r3 r4
  replace hz1 := Lib.hid hz1
  replace hz0 := Lib.hid hz0
  refine wp_region_F (fun _ : World => True) [0, 1, 2, 3, 4, 5, 6, 7, 8, 10, 11, 12, 14, 16] (by kernel_rfl) ?_
  show wpF _ _ _ _ _ _ 18 _ _ _
  have hS0 : True := trivial
  clear hL3
  generalize W3.drew = Wd at *
  refine wpF_take (i := 0) (v := (.slice (some ⟨g8, 0, none⟩) 8 c8)) rfl (by kernel_rfl) (by kernel_rfl) (by kernel_rfl) (by kernel_rfl) (fun _ _ _ h => h) (.inl ⟨rfl, fun W' hW' => ?_⟩) hS0 ?_
  · go_simp
  refine wpF_take (i := 1) (v := (.int .i64 (k : Int))) rfl (by kernel_rfl) (by kernel_rfl) (by kernel_rfl) (by kernel_rfl) (fun _ _ _ h => h) (.inl ⟨rfl, fun W' hW' => ?_⟩) hS0 ?_
  · go_simp
  refine wpF_take (i := 2) (v := (.slice (some ⟨g8, 0, none⟩) 8 c8)) rfl (by kernel_rfl) (by kernel_rfl) (by kernel_rfl) (by kernel_rfl) (fun _ _ _ h => h) (.inl ⟨rfl, fun W' hW' => ?_⟩) hS0 ?_
  · go_simp
  refine wpF_take (i := 3) (v := (.int .i64 (k : Int))) rfl (by kernel_rfl) (by kernel_rfl) (by kernel_rfl) (by kernel_rfl) (fun _ _ _ h => h) (.inl ⟨rfl, fun W' hW' => ?_⟩) hS0 ?_
  · go_simp
  refine wpF_take (i := 4) (v := (.int .i64 ((k : Int) + 1))) rfl (by kernel_rfl) (by kernel_rfl) (by kernel_rfl) (by kernel_rfl) (fun _ _ _ h => h) (.inl ⟨rfl, fun W' hW' => ?_⟩) hS0 ?_
  · go_simp
    rw [IntKind.wrap_i64]; omega
  refine wpF_take (i := 5) (v := (.slice (some ⟨g8, 0, none⟩) 8 c8)) rfl (by kernel_rfl) (by kernel_rfl) (by kernel_rfl) (by kernel_rfl) (fun _ _ _ h => h) (.inl ⟨rfl, fun W' hW' => ?_⟩) hS0 ?_
  · go_simp
  refine wpF_take (i := 6) (v := (.int .i64 (k : Int))) rfl (by kernel_rfl) (by kernel_rfl) (by kernel_rfl) (by kernel_rfl) (fun _ _ _ h => h) (.inl ⟨rfl, fun W' hW' => ?_⟩) hS0 ?_
  · go_simp
  refine wpF_take (i := 7) (v := (.int .i64 ((k : Int) + 1))) rfl (by kernel_rfl) (by kernel_rfl) (by kernel_rfl) (by kernel_rfl) (fun _ _ _ h => h) (.inl ⟨rfl, fun W' hW' => ?_⟩) hS0 ?_
  · go_simp
    rw [IntKind.wrap_i64]; omega
  refine wpF_take (i := 8) (v := (.pointer (some ⟨g8, (k + 1) * 2, none⟩))) rfl (by kernel_rfl) (by kernel_rfl) (by kernel_rfl) (by kernel_rfl) (fun _ _ _ h => h) (.inl ⟨rfl, fun W' hW' => ?_⟩) hS0 ?_
  · go_simp
    intro h; omega
  refine wpF_take (i := 10) (v := (.slice (some ⟨g8, 0, none⟩) 8 c8)) rfl (by kernel_rfl) (by kernel_rfl) (by kernel_rfl) (by kernel_rfl) (fun _ _ _ h => h) (.inl ⟨rfl, fun W' hW' => ?_⟩) hS0 ?_
  · go_simp
  refine wpF_take (i := 11) (v := (.int .i64 (k : Int))) rfl (by kernel_rfl) (by kernel_rfl) (by kernel_rfl) (by kernel_rfl) (fun _ _ _ h => h) (.inl ⟨rfl, fun W' hW' => ?_⟩) hS0 ?_
  · go_simp
  refine wpF_take (i := 12) (v := (.pointer (some ⟨g8, k * 2, none⟩))) rfl (by kernel_rfl) (by kernel_rfl) (by kernel_rfl) (by kernel_rfl) (fun _ _ _ h => h) (.inl ⟨rfl, fun W' hW' => ?_⟩) hS0 ?_
  · go_simp
  refine wpF_two (j := 9) (k := 13) rfl rfl (by kernel_rfl) rfl rfl (fun K99 hK99 => ?_) (fun K13 hK13 => ?_)
  · go_simp
    refine hK99 _ _ trivial ?_
    clear hK99 K99
    refine wpF_step (k := 13) rfl (by kernel_rfl) rfl fun K13 hK13 => ?_
    go_simp
    refine hK13 _ _ trivial ?_
    clear hK13 K13
    refine wpF_take (i := 14) (v := (.pointer (some ⟨g8, k * 2, none⟩))) rfl (by kernel_rfl) (by kernel_rfl) (by kernel_rfl) (by kernel_rfl) (fun _ _ _ h => h) (.inl ⟨rfl, fun W' hW' => ?_⟩) hS0 ?_
    · go_simp
    refine wpF_step (k := 15) rfl (by kernel_rfl) rfl fun K15 hK15 => ?_
    go_simp
    refine hK15 _ _ trivial ?_
    clear hK15 K15
    clear q1 r1 r2 r3 r4
    generalize hW : World.setCell (World.setCell Wd _ _) _ _ = W4
    have hL4 : L3 w5 W4 g6 c6 (badS k) g7 c7 (twiceS k) g8 c8 ((alph 8).set k z1) := by
      rw [← hW]
      exact hL3d.put3 (i := k) hk8' z1
    clear hW hL3d
    have q1 := own_free hL4.o3
    obtain ⟨r1, r2⟩ := own_cell2 hL4.o3 hkn
    refine wpF_take (i := 16) (v := (.pointer (some ⟨g8, (k + 1) * 2, none⟩))) rfl (by kernel_rfl) (by kernel_rfl) (by kernel_rfl) (by kernel_rfl) (fun _ _ _ h => h) (.inl ⟨rfl, fun W' hW' => ?_⟩) hS0 ?_
    · go_simp
      intro h; omega
    refine wpF_step (k := 17) rfl (by kernel_rfl) rfl fun K17 hK17 => ?_
    go_simp
    refine hK17 _ _ trivial ?_
    clear hK17 K17
    refine ⟨by kernel_rfl, ?_⟩
    clear q1 r1 r2 hS0
    generalize hW : World.setCell (World.setCell W4 _ _) _ _ = W5
    have hL5 : L3 w5 W5 g6 c6 (badS k) g7 c7 (twiceS k) g8 c8 (turnS k) := by
      rw [← hW]
      have := hL4.put3 (i := k + 1) hkn z0
      rw [hz0.out, hz1.out] at this
      rw [hz0.out]
      exact this
    clear hW hL4 hz0 hz1
    refine hK9.out _ _ ?_
    clear hK9
    replace hB := hB.ext hL5.ext
    replace hP := hP.ext hL5.ext
    replace hS := hS.ext hL5.ext
    replace hN := hN.ext hL5.ext
    replace hx := hx.trans hL5.ext
    have hD1 := OwnK.rdc Snd.len hL5.o1
    have hD2 := OwnK.rdc Snd.len hL5.o2
    have hD3 := OwnK.rdc Snd.len hL5.o3
    clear hL5
    obtain ⟨p0, p1, p2, p3, p4, p5, p6⟩ := hB.cells
    go_wp2_with fail
    refine (built_any (str_all.built (some ⟨bs, 0, none⟩)) hP hS).mono ?_
    rintro e y1 ⟨ba, rfl, hA, hy⟩
    replace hB := hB.ext hy
    replace hP := hP.ext hy
    replace hS := hS.ext hy
    replace hx := hx.trans hy
    clear p0 p1 p2 p3 p4 p5 p6
    obtain ⟨p0, p1, p2, p3, p4, p5, p6⟩ := hB.cells
    replace hN := hN.ext hy
    replace hD1 := hD1.ext hy
    replace hD2 := hD2.ext hy
    replace hD3 := hD3.ext hy
    clear hy
    go_wp2_with fail
    refine (buildR_any (str_ok _).1 (str_ok _).2.1 hP hN (r := 12) (by rw [(str_ok _).2.2.1]; exact ref_nine) (by decide)).mono ?_
    rintro e y2 ⟨rfl, hy⟩
    replace hB := hB.ext hy
    replace hP := hP.ext hy
    replace hS := hS.ext hy
    replace hx := hx.trans hy
    clear p0 p1 p2 p3 p4 p5 p6
    obtain ⟨p0, p1, p2, p3, p4, p5, p6⟩ := hB.cells
    replace hA := hA.ext hy
    replace hD1 := hD1.ext hy
    replace hD2 := hD2.ext hy
    replace hD3 := hD3.ext hy
    clear hy hN
    go_wp2_with fail
    refine (buildR_any (str_ok _).1 (str_ok _).2.1 hP hD1 (r := 14) (by rw [(str_ok _).2.2.1]; exact ref_bad hk7) (by decide)).mono ?_
    rintro e y3 ⟨rfl, hy⟩
    replace hB := hB.ext hy
    replace hP := hP.ext hy
    replace hS := hS.ext hy
    replace hx := hx.trans hy
    clear p0 p1 p2 p3 p4 p5 p6
    obtain ⟨p0, p1, p2, p3, p4, p5, p6⟩ := hB.cells
    replace hA := hA.ext hy
    replace hD2 := hD2.ext hy
    replace hD3 := hD3.ext hy
    clear hy hD1
    go_wp2_with fail
    refine (buildR_any (str_ok _).1 (str_ok _).2.1 hP hD2 (r := 6) (by rw [(str_ok _).2.2.1]; exact ref_twice hk7) (by decide)).mono ?_
    rintro e y4 ⟨rfl, hy⟩
    replace hB := hB.ext hy
    replace hP := hP.ext hy
    replace hS := hS.ext hy
    replace hx := hx.trans hy
    clear p0 p1 p2 p3 p4 p5 p6
    obtain ⟨p0, p1, p2, p3, p4, p5, p6⟩ := hB.cells
    replace hA := hA.ext hy
    replace hD3 := hD3.ext hy
    clear hy hD2
    go_wp2_with fail
    refine (built_any ((str_turn hk7).built (some ⟨bs, 0, none⟩)) hP hD3).mono ?_
    rintro e y5 ⟨bb, rfl, hT, hy⟩
    replace hB := hB.ext hy
    replace hP := hP.ext hy
    replace hS := hS.ext hy
    replace hx := hx.trans hy
    clear p0 p1 p2 p3 p4 p5 p6
    obtain ⟨p0, p1, p2, p3, p4, p5, p6⟩ := hB.cells
    replace hA := hA.ext hy
    clear hy hD3
    go_wp2_with fail
    refine wp_region_F (fun W' : World => Ext y5 W') [0, 1, 2, 5, 6] (by kernel_rfl) ?_
    show wpF _ _ _ _ _ _ 9 _ _ _
    have hS0 : (fun W' : World => Ext y5 W') y5.drew := (Ext.refl _).drew
    refine wpF_take (i := 0) (v := .agg #[.int .i64 (strP (some ⟨bs, 0, none⟩)).kind, .int .u32 (strP (some ⟨bs, 0, none⟩)).is.p.toNat, .int .u32 (strP (some ⟨bs, 0, none⟩)).is.m.toNat, .bool (strP (some ⟨bs, 0, none⟩)).neg, .int .i64 (strP (some ⟨bs, 0, none⟩)).mn, .int .i64 (strP (some ⟨bs, 0, none⟩)).mx, .slice (strP (some ⟨bs, 0, none⟩)).a (strP (some ⟨bs, 0, none⟩)).n (strP (some ⟨bs, 0, none⟩)).cap]) rfl (by kernel_rfl) (by kernel_rfl) (by kernel_rfl) (by kernel_rfl) (fun _ _ _ h => h) (.inl ⟨rfl, fun W' hW' => ?_⟩) hS0 ?_
    · obtain ⟨u0, u1, u2, u3, u4, u5, u6⟩ := (hB.ext hW').cells
      clear p0 p1 p2 p3 p4 p5 p6
      go_simp
    clear p0 p1 p2 p3 p4 p5 p6
    refine wpF_take (i := 1) (v := (.slice (some ⟨gS, 0, none⟩) 8 sc)) rfl (by kernel_rfl) (by kernel_rfl) (by kernel_rfl) (by kernel_rfl) (fun _ _ _ h => h) (.inl ⟨rfl, fun W' hW' => ?_⟩) hS0 ?_
    · go_simp
    refine wpF_take (i := 2) (v := (.slice (some ⟨gS, 0, none⟩) 7 sc)) rfl (by kernel_rfl) (by kernel_rfl) (by kernel_rfl) (by kernel_rfl) (fun _ _ _ h => h) (.inl ⟨rfl, fun W' hW' => ?_⟩) hS0 ?_
    · have hsc := hS.le
      have hsc2 : (7 : Int) ≤ (sc : Int) := by omega
      go_simp
    refine wpF_step (k := 3) rfl (by kernel_rfl) rfl fun K hK => ?_
    go_simp
    have hS7 : RdS y5.drew (some ⟨gS, 0, none⟩) 7 sc (alph 7) := (rdk_pre hS (by decide)).ext hS0
    refine (built_any (str_seven.built (some ⟨bs, 0, none⟩)) (hP.ext hS0) hS7).mono ?_
    rintro e y6 ⟨bc, rfl, hC, hy⟩
    replace hS0 := Ext.trans hS0 hy
    refine hK _ _ hS0 ?_
    clear hK K hy hS7
    refine wpF_step (k := 4) rfl (by kernel_rfl) rfl fun K hK => ?_
    go_simp
    refine hK _ _ hS0 ?_
    clear hK K
    refine wpF_take (i := 5) (v := (.pointer (some ⟨bc, 0, none⟩))) rfl (by kernel_rfl) (by kernel_rfl) (by kernel_rfl) (by kernel_rfl) (fun _ _ _ h => h) (.inl ⟨rfl, fun W' hW' => ?_⟩) hS0 ?_
    · go_simp
    refine wpF_take (i := 6) (v := (.int .i64 0)) rfl (by kernel_rfl) (by kernel_rfl) (by kernel_rfl) (by kernel_rfl) (fun _ _ _ h => h) (.inl ⟨rfl, fun W' hW' => ?_⟩) hS0 ?_
    · go_simp
    refine wpF_step (k := 7) rfl (by kernel_rfl) rfl fun K hK => ?_
    go_simp
    refine hK _ _ hS0 ?_
    clear hK K
    refine wpF_step (k := 8) rfl (by kernel_rfl) rfl fun K hK => ?_
    go_simp
    refine hK _ _ hS0 ?_
    clear hK K
    refine ⟨by kernel_rfl, ?_⟩
    replace hS := hS.ext hS0
    replace hA := hA.ext hS0
    replace hT := hT.ext hS0
    replace hx := hx.trans hS0
    clear hS0 hB hP
    go_wp2_with fail
    have s2 := (str_turn hk7).two
    refine (and_err (togA_err (strA (alph 8)) (strA (turnS k)) 2 2 str_all.two s2 (by decide) (by decide) (by decide) (by decide) 2 (.inl ⟨turn_ne hk7, rfl⟩) _ ba bb hA hT)).mono ?_
    rintro e y7 ⟨rfl, hy⟩
    replace hS := hS.ext hy
    replace hA := hA.ext hy
    replace hC := hC.ext hy
    replace hx := hx.trans hy
    clear hy hT s2
    go_wp2_with fail
    refine (differ_err rfl (togD_err (strA (alph 7)) (strA (alph 8)) 2 2 str_seven.two str_all.two (by decide) (by decide) (by decide) (by decide) 2 (.inl ⟨seven_ne, rfl⟩) _ bc ba hC hA)).mono ?_
    rintro e y8 ⟨rfl, hy⟩
    replace hS := hS.ext hy
    replace hx := hx.trans hy
    clear hy hC hA
    go_wp2_with fail
    refine (sound_any ⟨0#32, 0#32⟩ _).mono ?_
    rintro e d1 ⟨rfl, hy⟩
    have hxu := hy
    clear hy
    go_wp2_with fail
    refine (star_any _ _ (oneP_rd ⟨0#32, 0#32⟩ _)).mono ?_
    rintro e d2 ⟨f1, rfl, hP1, hy⟩
    replace hxu := hxu.trans hy
    clear hy
    go_wp2_with fail
    refine (sound_any ⟨1#32, 0#32⟩ _).mono ?_
    rintro e d3 ⟨rfl, hy⟩
    replace hxu := hxu.trans hy
    replace hP1 := hP1.ext hy
    clear hy
    go_wp2_with fail
    refine (sound_any ⟨0#32, 0#32⟩ _).mono ?_
    rintro e d4 ⟨rfl, hy⟩
    replace hxu := hxu.trans hy
    replace hP1 := hP1.ext hy
    clear hy
    go_wp2_with fail
    refine (times_any _ 5 _ (oneP_rd ⟨0#32, 0#32⟩ _)).mono ?_
    rintro e d5 ⟨f2, rfl, hP2, hy⟩
    replace hxu := hxu.trans hy
    replace hP1 := hP1.ext hy
    clear hy
    go_wp2_with fail
    generalize hW : World.alloc d5 _ = d6
    have hz : Ext d5 d6 := by rw [← hW]; exact Ext.alloc1 _ _
    have hL : RdK 7 HP.enc d6 (some ⟨d5.heap.size, 0, none⟩) 3 3 [starP anyP (some ⟨f1, 0, none⟩), oneP ⟨1#32, 0#32⟩, timesP anyP (5 : Int) (some ⟨f2, 0, none⟩)] := by
      refine rd_block (b := d5.heap.size) HP.len (by rw [← hW]; exact World.alloc_heap_new d5 _) ?_ rfl (by unfold maxLen; omega)
      rfl
    clear hW
    have hLs : ∀ x ∈ [starP anyP (some ⟨f1, 0, none⟩), oneP ⟨1#32, 0#32⟩, timesP anyP (5 : Int) (some ⟨f2, 0, none⟩)], RdPt d6 x := by
      intro x hx
      simp only [List.mem_cons, List.not_mem_nil, or_false] at hx
      rcases hx with rfl | rfl | rfl
      · exact hP1.ext hz
      · exact oneP_rd _ _
      · exact hP2.ext hz
    generalize d5.heap.size = f3 at *
    replace hxu := hxu.trans hz
    clear hz hP1 hP2
    refine (seqP_any _ _ 3 3 _ hL hLs).mono ?_
    rintro e d7 ⟨rfl, hP, hy⟩
    replace hP : RdPt d7 (winP ⟨1#32, 0#32⟩ 5 (some ⟨f1, 0, none⟩) (some ⟨f2, 0, none⟩) (some ⟨f3, 0, none⟩)) := hP
    replace hxu := hxu.trans hy
    replace hS := hS.ext hxu
    replace hx := hx.trans hxu
    clear hy hL hLs
    go_wp2_with fail
    refine (built_any (win5_built (some ⟨f1, 0, none⟩) (some ⟨f2, 0, none⟩) (some ⟨f3, 0, none⟩)) hP hS).mono ?_
    rintro e d8 ⟨bd, rfl, hD, hy⟩
    replace hS := hS.ext hy
    replace hx := hx.trans hy
    clear hy hP hxu
    go_wp2_with fail
    refine (sound_any ⟨0#32, 0#32⟩ _).mono ?_
    rintro e m1 ⟨rfl, hy⟩
    have hxu := hy
    clear hy
    go_wp2_with fail
    refine (star_any _ _ (oneP_rd ⟨0#32, 0#32⟩ _)).mono ?_
    rintro e m2 ⟨f1, rfl, hP1, hy⟩
    replace hxu := hxu.trans hy
    clear hy
    go_wp2_with fail
    refine (sound_any ⟨2#32, 0#32⟩ _).mono ?_
    rintro e m3 ⟨rfl, hy⟩
    replace hxu := hxu.trans hy
    replace hP1 := hP1.ext hy
    clear hy
    go_wp2_with fail
    refine (sound_any ⟨0#32, 0#32⟩ _).mono ?_
    rintro e m4 ⟨rfl, hy⟩
    replace hxu := hxu.trans hy
    replace hP1 := hP1.ext hy
    clear hy
    go_wp2_with fail
    refine (times_any _ 6 _ (oneP_rd ⟨0#32, 0#32⟩ _)).mono ?_
    rintro e m5 ⟨f2, rfl, hP2, hy⟩
    replace hxu := hxu.trans hy
    replace hP1 := hP1.ext hy
    clear hy
    go_wp2_with fail
    generalize hW : World.alloc m5 _ = m6
    have hz : Ext m5 m6 := by rw [← hW]; exact Ext.alloc1 _ _
    have hL : RdK 7 HP.enc m6 (some ⟨m5.heap.size, 0, none⟩) 3 3 [starP anyP (some ⟨f1, 0, none⟩), oneP ⟨2#32, 0#32⟩, timesP anyP (6 : Int) (some ⟨f2, 0, none⟩)] := by
      refine rd_block (b := m5.heap.size) HP.len (by rw [← hW]; exact World.alloc_heap_new m5 _) ?_ rfl (by unfold maxLen; omega)
      rfl
    clear hW
    have hLs : ∀ x ∈ [starP anyP (some ⟨f1, 0, none⟩), oneP ⟨2#32, 0#32⟩, timesP anyP (6 : Int) (some ⟨f2, 0, none⟩)], RdPt m6 x := by
      intro x hx
      simp only [List.mem_cons, List.not_mem_nil, or_false] at hx
      rcases hx with rfl | rfl | rfl
      · exact hP1.ext hz
      · exact oneP_rd _ _
      · exact hP2.ext hz
    generalize m5.heap.size = f3 at *
    replace hxu := hxu.trans hz
    clear hz hP1 hP2
    refine (seqP_any _ _ 3 3 _ hL hLs).mono ?_
    rintro e m7 ⟨rfl, hP, hy⟩
    replace hP : RdPt m7 (winP ⟨2#32, 0#32⟩ 6 (some ⟨f1, 0, none⟩) (some ⟨f2, 0, none⟩) (some ⟨f3, 0, none⟩)) := hP
    replace hxu := hxu.trans hy
    replace hS := hS.ext hxu
    replace hx := hx.trans hxu
    clear hy hL hLs
    go_wp2_with fail
    refine (built_any (win6_built (some ⟨f1, 0, none⟩) (some ⟨f2, 0, none⟩) (some ⟨f3, 0, none⟩)) hP hS).mono ?_
    rintro e m8 ⟨bm, rfl, hM, hy⟩
    replace hD := hD.ext (hxu.trans hy)
    replace hx := hx.trans hy
    clear hy hP hxu hS
    go_wp2_with fail
    have ld := winL_len ⟨1#32, 0#32⟩ 5 8 (by decide)
    have lm := winL_len ⟨2#32, 0#32⟩ 6 8 (by decide)
    have hsd := states_any _ _ _ hD
    rw [ld] at hsd
    have hsm := fun W (hW : AuAt W bm (winL ⟨2#32, 0#32⟩ 6 8)) => states_any _ W bm hW
    rw [lm] at hsm
    refine hsd.mono ?_
    rintro e s1 ⟨rfl, hy⟩
    replace hD := hD.ext hy
    replace hM := hM.ext hy
    replace hx := hx.trans hy
    clear hy hsd
    go_wp2_with fail
    refine (hsm _ hM).mono ?_
    rintro e s2 ⟨rfl, hy⟩
    replace hD := hD.ext hy
    replace hM := hM.ext hy
    replace hx := hx.trans hy
    clear hy hsm
    go_wp2_with fail
    refine (and_ok (togA_any (winL ⟨1#32, 0#32⟩ 5 8) (winL ⟨1#32, 0#32⟩ 5 8) dd_ok.2 dd_ok.2 rfl 64 64 ld ld (by decide) (by decide) (by decide) 64 5 (by decide) dd_tog winD rfl dd_ok.1 dd_least _ bd bd hD hD)).mono ?_
    rintro e s3 ⟨by', rfl, hY, hy⟩
    replace hD := hD.ext hy
    replace hM := hM.ext hy
    replace hx := hx.trans hy
    clear hy
    go_wp2_with fail
    refine (and_err (togA_err (winL ⟨1#32, 0#32⟩ 5 8) (winL ⟨2#32, 0#32⟩ 6 8) 64 128 ld lm (by decide) (by decide) (by decide) (by decide) 12 (.inr ⟨rfl, by decide, rfl⟩) _ bd bm hD hM)).mono ?_
    rintro e s4 ⟨rfl, hy⟩
    replace hY := hY.ext hy
    replace hx := hx.trans hy
    clear hy hD hM ld lm
    have hsy := states_any _ _ _ hY
    rw [dd_len] at hsy
    go_wp2_with fail
    refine hsy.mono ?_
    rintro e s5 ⟨rfl, hy⟩
    replace hx := hx.trans hy
    clear hy hsy hY
    go_wp2_with fail
    refine (works_any _).mono ?_
    rintro e s6 ⟨rfl, hy⟩
    replace hx := hx.trans hy
    clear hy
    go_wp2_with fail
    go_ret
    exact ⟨rfl, hx⟩
  · go_simp
    refine hK13 _ _ trivial ?_
    clear hK13 K13
    refine wpF_step (k := 9) rfl (by kernel_rfl) rfl fun K99 hK99 => ?_
    go_simp
    refine hK99 _ _ trivial ?_
    clear hK99 K99
    refine wpF_take (i := 14) (v := (.pointer (some ⟨g8, k * 2, none⟩))) rfl (by kernel_rfl) (by kernel_rfl) (by kernel_rfl) (by kernel_rfl) (fun _ _ _ h => h) (.inl ⟨rfl, fun W' hW' => ?_⟩) hS0 ?_
    · go_simp
    refine wpF_step (k := 15) rfl (by kernel_rfl) rfl fun K15 hK15 => ?_
    go_simp
    refine hK15 _ _ trivial ?_
    clear hK15 K15
    clear q1 r1 r2 r3 r4
    generalize hW : World.setCell (World.setCell Wd _ _) _ _ = W4
    have hL4 : L3 w5 W4 g6 c6 (badS k) g7 c7 (twiceS k) g8 c8 ((alph 8).set k z1) := by
      rw [← hW]
      exact hL3d.put3 (i := k) hk8' z1
    clear hW hL3d
    have q1 := own_free hL4.o3
    obtain ⟨r1, r2⟩ := own_cell2 hL4.o3 hkn
    refine wpF_take (i := 16) (v := (.pointer (some ⟨g8, (k + 1) * 2, none⟩))) rfl (by kernel_rfl) (by kernel_rfl) (by kernel_rfl) (by kernel_rfl) (fun _ _ _ h => h) (.inl ⟨rfl, fun W' hW' => ?_⟩) hS0 ?_
    · go_simp
      intro h; omega
    refine wpF_step (k := 17) rfl (by kernel_rfl) rfl fun K17 hK17 => ?_
    go_simp
    refine hK17 _ _ trivial ?_
    clear hK17 K17
    refine ⟨by kernel_rfl, ?_⟩
    clear q1 r1 r2 hS0
    generalize hW : World.setCell (World.setCell W4 _ _) _ _ = W5
    have hL5 : L3 w5 W5 g6 c6 (badS k) g7 c7 (twiceS k) g8 c8 (turnS k) := by
      rw [← hW]
      have := hL4.put3 (i := k + 1) hkn z0
      rw [hz0.out, hz1.out] at this
      rw [hz0.out]
      exact this
    clear hW hL4 hz0 hz1
    refine hK9.out _ _ ?_
    clear hK9
    replace hB := hB.ext hL5.ext
    replace hP := hP.ext hL5.ext
    replace hS := hS.ext hL5.ext
    replace hN := hN.ext hL5.ext
    replace hx := hx.trans hL5.ext
    have hD1 := OwnK.rdc Snd.len hL5.o1
    have hD2 := OwnK.rdc Snd.len hL5.o2
    have hD3 := OwnK.rdc Snd.len hL5.o3
    clear hL5
    obtain ⟨p0, p1, p2, p3, p4, p5, p6⟩ := hB.cells
    go_wp2_with fail
    refine (built_any (str_all.built (some ⟨bs, 0, none⟩)) hP hS).mono ?_
    rintro e y1 ⟨ba, rfl, hA, hy⟩
    replace hB := hB.ext hy
    replace hP := hP.ext hy
    replace hS := hS.ext hy
    replace hx := hx.trans hy
    clear p0 p1 p2 p3 p4 p5 p6
    obtain ⟨p0, p1, p2, p3, p4, p5, p6⟩ := hB.cells
    replace hN := hN.ext hy
    replace hD1 := hD1.ext hy
    replace hD2 := hD2.ext hy
    replace hD3 := hD3.ext hy
    clear hy
    go_wp2_with fail
    refine (buildR_any (str_ok _).1 (str_ok _).2.1 hP hN (r := 12) (by rw [(str_ok _).2.2.1]; exact ref_nine) (by decide)).mono ?_
    rintro e y2 ⟨rfl, hy⟩
    replace hB := hB.ext hy
    replace hP := hP.ext hy
    replace hS := hS.ext hy
    replace hx := hx.trans hy
    clear p0 p1 p2 p3 p4 p5 p6
    obtain ⟨p0, p1, p2, p3, p4, p5, p6⟩ := hB.cells
    replace hA := hA.ext hy
    replace hD1 := hD1.ext hy
    replace hD2 := hD2.ext hy
    replace hD3 := hD3.ext hy
    clear hy hN
    go_wp2_with fail
    refine (buildR_any (str_ok _).1 (str_ok _).2.1 hP hD1 (r := 14) (by rw [(str_ok _).2.2.1]; exact ref_bad hk7) (by decide)).mono ?_
    rintro e y3 ⟨rfl, hy⟩
    replace hB := hB.ext hy
    replace hP := hP.ext hy
    replace hS := hS.ext hy
    replace hx := hx.trans hy
    clear p0 p1 p2 p3 p4 p5 p6
    obtain ⟨p0, p1, p2, p3, p4, p5, p6⟩ := hB.cells
    replace hA := hA.ext hy
    replace hD2 := hD2.ext hy
    replace hD3 := hD3.ext hy
    clear hy hD1
    go_wp2_with fail
    refine (buildR_any (str_ok _).1 (str_ok _).2.1 hP hD2 (r := 6) (by rw [(str_ok _).2.2.1]; exact ref_twice hk7) (by decide)).mono ?_
    rintro e y4 ⟨rfl, hy⟩
    replace hB := hB.ext hy
    replace hP := hP.ext hy
    replace hS := hS.ext hy
    replace hx := hx.trans hy
    clear p0 p1 p2 p3 p4 p5 p6
    obtain ⟨p0, p1, p2, p3, p4, p5, p6⟩ := hB.cells
    replace hA := hA.ext hy
    replace hD3 := hD3.ext hy
    clear hy hD2
    go_wp2_with fail
    refine (built_any ((str_turn hk7).built (some ⟨bs, 0, none⟩)) hP hD3).mono ?_
    rintro e y5 ⟨bb, rfl, hT, hy⟩
    replace hB := hB.ext hy
    replace hP := hP.ext hy
    replace hS := hS.ext hy
    replace hx := hx.trans hy
    clear p0 p1 p2 p3 p4 p5 p6
    obtain ⟨p0, p1, p2, p3, p4, p5, p6⟩ := hB.cells
    replace hA := hA.ext hy
    clear hy hD3
    go_wp2_with fail
    refine wp_region_F (fun W' : World => Ext y5 W') [0, 1, 2, 5, 6] (by kernel_rfl) ?_
    show wpF _ _ _ _ _ _ 9 _ _ _
    have hS0 : (fun W' : World => Ext y5 W') y5.drew := (Ext.refl _).drew
    refine wpF_take (i := 0) (v := .agg #[.int .i64 (strP (some ⟨bs, 0, none⟩)).kind, .int .u32 (strP (some ⟨bs, 0, none⟩)).is.p.toNat, .int .u32 (strP (some ⟨bs, 0, none⟩)).is.m.toNat, .bool (strP (some ⟨bs, 0, none⟩)).neg, .int .i64 (strP (some ⟨bs, 0, none⟩)).mn, .int .i64 (strP (some ⟨bs, 0, none⟩)).mx, .slice (strP (some ⟨bs, 0, none⟩)).a (strP (some ⟨bs, 0, none⟩)).n (strP (some ⟨bs, 0, none⟩)).cap]) rfl (by kernel_rfl) (by kernel_rfl) (by kernel_rfl) (by kernel_rfl) (fun _ _ _ h => h) (.inl ⟨rfl, fun W' hW' => ?_⟩) hS0 ?_
    · obtain ⟨u0, u1, u2, u3, u4, u5, u6⟩ := (hB.ext hW').cells
      clear p0 p1 p2 p3 p4 p5 p6
      go_simp
    clear p0 p1 p2 p3 p4 p5 p6
    refine wpF_take (i := 1) (v := (.slice (some ⟨gS, 0, none⟩) 8 sc)) rfl (by kernel_rfl) (by kernel_rfl) (by kernel_rfl) (by kernel_rfl) (fun _ _ _ h => h) (.inl ⟨rfl, fun W' hW' => ?_⟩) hS0 ?_
    · go_simp
    refine wpF_take (i := 2) (v := (.slice (some ⟨gS, 0, none⟩) 7 sc)) rfl (by kernel_rfl) (by kernel_rfl) (by kernel_rfl) (by kernel_rfl) (fun _ _ _ h => h) (.inl ⟨rfl, fun W' hW' => ?_⟩) hS0 ?_
    · have hsc := hS.le
      have hsc2 : (7 : Int) ≤ (sc : Int) := by omega
      go_simp
    refine wpF_step (k := 3) rfl (by kernel_rfl) rfl fun K hK => ?_
    go_simp
    have hS7 : RdS y5.drew (some ⟨gS, 0, none⟩) 7 sc (alph 7) := (rdk_pre hS (by decide)).ext hS0
    refine (built_any (str_seven.built (some ⟨bs, 0, none⟩)) (hP.ext hS0) hS7).mono ?_
    rintro e y6 ⟨bc, rfl, hC, hy⟩
    replace hS0 := Ext.trans hS0 hy
    refine hK _ _ hS0 ?_
    clear hK K hy hS7
    refine wpF_step (k := 4) rfl (by kernel_rfl) rfl fun K hK => ?_
    go_simp
    refine hK _ _ hS0 ?_
    clear hK K
    refine wpF_take (i := 5) (v := (.pointer (some ⟨bc, 0, none⟩))) rfl (by kernel_rfl) (by kernel_rfl) (by kernel_rfl) (by kernel_rfl) (fun _ _ _ h => h) (.inl ⟨rfl, fun W' hW' => ?_⟩) hS0 ?_
    · go_simp
    refine wpF_take (i := 6) (v := (.int .i64 0)) rfl (by kernel_rfl) (by kernel_rfl) (by kernel_rfl) (by kernel_rfl) (fun _ _ _ h => h) (.inl ⟨rfl, fun W' hW' => ?_⟩) hS0 ?_
    · go_simp
    refine wpF_step (k := 7) rfl (by kernel_rfl) rfl fun K hK => ?_
    go_simp
    refine hK _ _ hS0 ?_
    clear hK K
    refine wpF_step (k := 8) rfl (by kernel_rfl) rfl fun K hK => ?_
    go_simp
    refine hK _ _ hS0 ?_
    clear hK K
    refine ⟨by kernel_rfl, ?_⟩
    replace hS := hS.ext hS0
    replace hA := hA.ext hS0
    replace hT := hT.ext hS0
    replace hx := hx.trans hS0
    clear hS0 hB hP
    go_wp2_with fail
    have s2 := (str_turn hk7).two
    refine (and_err (togA_err (strA (alph 8)) (strA (turnS k)) 2 2 str_all.two s2 (by decide) (by decide) (by decide) (by decide) 2 (.inl ⟨turn_ne hk7, rfl⟩) _ ba bb hA hT)).mono ?_
    rintro e y7 ⟨rfl, hy⟩
    replace hS := hS.ext hy
    replace hA := hA.ext hy
    replace hC := hC.ext hy
    replace hx := hx.trans hy
    clear hy hT s2
    go_wp2_with fail
    refine (differ_err rfl (togD_err (strA (alph 7)) (strA (alph 8)) 2 2 str_seven.two str_all.two (by decide) (by decide) (by decide) (by decide) 2 (.inl ⟨seven_ne, rfl⟩) _ bc ba hC hA)).mono ?_
    rintro e y8 ⟨rfl, hy⟩
    replace hS := hS.ext hy
    replace hx := hx.trans hy
    clear hy hC hA
    go_wp2_with fail
    refine (sound_any ⟨0#32, 0#32⟩ _).mono ?_
    rintro e d1 ⟨rfl, hy⟩
    have hxu := hy
    clear hy
    go_wp2_with fail
    refine (star_any _ _ (oneP_rd ⟨0#32, 0#32⟩ _)).mono ?_
    rintro e d2 ⟨f1, rfl, hP1, hy⟩
    replace hxu := hxu.trans hy
    clear hy
    go_wp2_with fail
    refine (sound_any ⟨1#32, 0#32⟩ _).mono ?_
    rintro e d3 ⟨rfl, hy⟩
    replace hxu := hxu.trans hy
    replace hP1 := hP1.ext hy
    clear hy
    go_wp2_with fail
    refine (sound_any ⟨0#32, 0#32⟩ _).mono ?_
    rintro e d4 ⟨rfl, hy⟩
    replace hxu := hxu.trans hy
    replace hP1 := hP1.ext hy
    clear hy
    go_wp2_with fail
    refine (times_any _ 5 _ (oneP_rd ⟨0#32, 0#32⟩ _)).mono ?_
    rintro e d5 ⟨f2, rfl, hP2, hy⟩
    replace hxu := hxu.trans hy
    replace hP1 := hP1.ext hy
    clear hy
    go_wp2_with fail
    generalize hW : World.alloc d5 _ = d6
    have hz : Ext d5 d6 := by rw [← hW]; exact Ext.alloc1 _ _
    have hL : RdK 7 HP.enc d6 (some ⟨d5.heap.size, 0, none⟩) 3 3 [starP anyP (some ⟨f1, 0, none⟩), oneP ⟨1#32, 0#32⟩, timesP anyP (5 : Int) (some ⟨f2, 0, none⟩)] := by
      refine rd_block (b := d5.heap.size) HP.len (by rw [← hW]; exact World.alloc_heap_new d5 _) ?_ rfl (by unfold maxLen; omega)
      rfl
    clear hW
    have hLs : ∀ x ∈ [starP anyP (some ⟨f1, 0, none⟩), oneP ⟨1#32, 0#32⟩, timesP anyP (5 : Int) (some ⟨f2, 0, none⟩)], RdPt d6 x := by
      intro x hx
      simp only [List.mem_cons, List.not_mem_nil, or_false] at hx
      rcases hx with rfl | rfl | rfl
      · exact hP1.ext hz
      · exact oneP_rd _ _
      · exact hP2.ext hz
    generalize d5.heap.size = f3 at *
    replace hxu := hxu.trans hz
    clear hz hP1 hP2
    refine (seqP_any _ _ 3 3 _ hL hLs).mono ?_
    rintro e d7 ⟨rfl, hP, hy⟩
    replace hP : RdPt d7 (winP ⟨1#32, 0#32⟩ 5 (some ⟨f1, 0, none⟩) (some ⟨f2, 0, none⟩) (some ⟨f3, 0, none⟩)) := hP
    replace hxu := hxu.trans hy
    replace hS := hS.ext hxu
    replace hx := hx.trans hxu
    clear hy hL hLs
    go_wp2_with fail
    refine (built_any (win5_built (some ⟨f1, 0, none⟩) (some ⟨f2, 0, none⟩) (some ⟨f3, 0, none⟩)) hP hS).mono ?_
    rintro e d8 ⟨bd, rfl, hD, hy⟩
    replace hS := hS.ext hy
    replace hx := hx.trans hy
    clear hy hP hxu
    go_wp2_with fail
    refine (sound_any ⟨0#32, 0#32⟩ _).mono ?_
    rintro e m1 ⟨rfl, hy⟩
    have hxu := hy
    clear hy
    go_wp2_with fail
    refine (star_any _ _ (oneP_rd ⟨0#32, 0#32⟩ _)).mono ?_
    rintro e m2 ⟨f1, rfl, hP1, hy⟩
    replace hxu := hxu.trans hy
    clear hy
    go_wp2_with fail
    refine (sound_any ⟨2#32, 0#32⟩ _).mono ?_
    rintro e m3 ⟨rfl, hy⟩
    replace hxu := hxu.trans hy
    replace hP1 := hP1.ext hy
    clear hy
    go_wp2_with fail
    refine (sound_any ⟨0#32, 0#32⟩ _).mono ?_
    rintro e m4 ⟨rfl, hy⟩
    replace hxu := hxu.trans hy
    replace hP1 := hP1.ext hy
    clear hy
    go_wp2_with fail
    refine (times_any _ 6 _ (oneP_rd ⟨0#32, 0#32⟩ _)).mono ?_
    rintro e m5 ⟨f2, rfl, hP2, hy⟩
    replace hxu := hxu.trans hy
    replace hP1 := hP1.ext hy
    clear hy
    go_wp2_with fail
    generalize hW : World.alloc m5 _ = m6
    have hz : Ext m5 m6 := by rw [← hW]; exact Ext.alloc1 _ _
    have hL : RdK 7 HP.enc m6 (some ⟨m5.heap.size, 0, none⟩) 3 3 [starP anyP (some ⟨f1, 0, none⟩), oneP ⟨2#32, 0#32⟩, timesP anyP (6 : Int) (some ⟨f2, 0, none⟩)] := by
      refine rd_block (b := m5.heap.size) HP.len (by rw [← hW]; exact World.alloc_heap_new m5 _) ?_ rfl (by unfold maxLen; omega)
      rfl
    clear hW
    have hLs : ∀ x ∈ [starP anyP (some ⟨f1, 0, none⟩), oneP ⟨2#32, 0#32⟩, timesP anyP (6 : Int) (some ⟨f2, 0, none⟩)], RdPt m6 x := by
      intro x hx
      simp only [List.mem_cons, List.not_mem_nil, or_false] at hx
      rcases hx with rfl | rfl | rfl
      · exact hP1.ext hz
      · exact oneP_rd _ _
      · exact hP2.ext hz
    generalize m5.heap.size = f3 at *
    replace hxu := hxu.trans hz
    clear hz hP1 hP2
    refine (seqP_any _ _ 3 3 _ hL hLs).mono ?_
    rintro e m7 ⟨rfl, hP, hy⟩
    replace hP : RdPt m7 (winP ⟨2#32, 0#32⟩ 6 (some ⟨f1, 0, none⟩) (some ⟨f2, 0, none⟩) (some ⟨f3, 0, none⟩)) := hP
    replace hxu := hxu.trans hy
    replace hS := hS.ext hxu
    replace hx := hx.trans hxu
    clear hy hL hLs
    go_wp2_with fail
    refine (built_any (win6_built (some ⟨f1, 0, none⟩) (some ⟨f2, 0, none⟩) (some ⟨f3, 0, none⟩)) hP hS).mono ?_
    rintro e m8 ⟨bm, rfl, hM, hy⟩
    replace hD := hD.ext (hxu.trans hy)
    replace hx := hx.trans hy
    clear hy hP hxu hS
    go_wp2_with fail
    have ld := winL_len ⟨1#32, 0#32⟩ 5 8 (by decide)
    have lm := winL_len ⟨2#32, 0#32⟩ 6 8 (by decide)
    have hsd := states_any _ _ _ hD
    rw [ld] at hsd
    have hsm := fun W (hW : AuAt W bm (winL ⟨2#32, 0#32⟩ 6 8)) => states_any _ W bm hW
    rw [lm] at hsm
    refine hsd.mono ?_
    rintro e s1 ⟨rfl, hy⟩
    replace hD := hD.ext hy
    replace hM := hM.ext hy
    replace hx := hx.trans hy
    clear hy hsd
    go_wp2_with fail
    refine (hsm _ hM).mono ?_
    rintro e s2 ⟨rfl, hy⟩
    replace hD := hD.ext hy
    replace hM := hM.ext hy
    replace hx := hx.trans hy
    clear hy hsm
    go_wp2_with fail
    refine (and_ok (togA_any (winL ⟨1#32, 0#32⟩ 5 8) (winL ⟨1#32, 0#32⟩ 5 8) dd_ok.2 dd_ok.2 rfl 64 64 ld ld (by decide) (by decide) (by decide) 64 5 (by decide) dd_tog winD rfl dd_ok.1 dd_least _ bd bd hD hD)).mono ?_
    rintro e s3 ⟨by', rfl, hY, hy⟩
    replace hD := hD.ext hy
    replace hM := hM.ext hy
    replace hx := hx.trans hy
    clear hy
    go_wp2_with fail
    refine (and_err (togA_err (winL ⟨1#32, 0#32⟩ 5 8) (winL ⟨2#32, 0#32⟩ 6 8) 64 128 ld lm (by decide) (by decide) (by decide) (by decide) 12 (.inr ⟨rfl, by decide, rfl⟩) _ bd bm hD hM)).mono ?_
    rintro e s4 ⟨rfl, hy⟩
    replace hY := hY.ext hy
    replace hx := hx.trans hy
    clear hy hD hM ld lm
    have hsy := states_any _ _ _ hY
    rw [dd_len] at hsy
    go_wp2_with fail
    refine hsy.mono ?_
    rintro e s5 ⟨rfl, hy⟩
    replace hx := hx.trans hy
    clear hy hsy hY
    go_wp2_with fail
    refine (works_any _).mono ?_
    rintro e s6 ⟨rfl, hy⟩
    replace hx := hx.trans hy
    clear hy
    go_wp2_with fail
    go_ret
    exact ⟨rfl, hx⟩
end Go.Proofs.Ytilkemdecenibaa
