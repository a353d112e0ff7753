/-
  NaturalCubes: the cubes, plain.
-/
import Derived.Test.YtbnbfdbliokcaaaDoorJ9
import Derived.Maps.AppendAt
namespace Go.Proofs.YtbnbfdbliokcaaaDoor
open Go.RowKit
def cubeS (k x : Nat) : Snd := madeV (BitVec.ofNat 32 x) (BitVec.ofNat 32 (2 ^ k - 1))
def cubeL (k : Nat) : List Snd := (List.range (2 ^ k)).map (cubeS k)
def lessTo (k m : Nat) : Nat → List Snd
  | 0 => []
  | x + 1 => if x = m then lessTo k m x else lessTo k m x ++ [cubeS k x]
theorem lessTo_len (k m : Nat) : ∀ x, (lessTo k m x).length ≤ x
  | 0 => Nat.le_refl _
  | x + 1 => by
    have := lessTo_len k m x
    simp only [lessTo]
    split
    · omega
    · simp; omega
theorem cube_chk : ∀ i : Fin 3, chkI 12 (cubeL (i.1 + 1)) = 0 ∧ chkI 256 (cubeL (i.1 + 1)) = 0 := by decide +kernel
set_option maxRecDepth 20000 in
theorem cube_cnt : ∀ i : Fin 3, countN (cubeL (i.1 + 1)) = 3 ^ (i.1 + 1) := by decide +kernel
theorem cube_gap : ∀ i : Fin 3, accTo (cubeL (i.1 + 1)) (gap1 (cubeL (i.1 + 1))) (cubeL (i.1 + 1)).length = [] := by decide +kernel
theorem less_chk : ∀ i : Fin 3, ∀ m : Fin 8, m.1 < 2 ^ (i.1 + 1) → chkI 256 (lessTo (i.1 + 1) m.1 (2 ^ (i.1 + 1))) = 0 := by decide +kernel
def lessG (k m : Nat) : List Snd := accTo (lessTo k m (2 ^ k)) (gap1 (lessTo k m (2 ^ k))) (lessTo k m (2 ^ k)).length
theorem less_gap1 : ∀ m : Fin 2, lessG 1 m.1 = [] := by decide +kernel
theorem less_gap2 : ∀ m : Fin 4, lessG 2 m.1 ≠ [] ∧ (lessG 2 m.1).all (fun g => decide (g = cubeS 2 m.1)) = true := by decide +kernel
theorem less_gap3 : ∀ m : Fin 8, lessG 3 m.1 ≠ [] ∧ (lessG 3 m.1).all (fun g => decide (g = cubeS 3 m.1)) = true := by decide +kernel
theorem srt_nil {xs : List Snd} (h : accTo xs (gap1 xs) xs.length = []) : SrtG xs [] :=
  ⟨List.Pairwise.nil, fun g => by rw [← gap_acc, h]⟩
theorem srt_one {xs : List Snd} {s : Snd} (h : accTo xs (gap1 xs) xs.length ≠ [] ∧ (accTo xs (gap1 xs) xs.length).all (fun g => decide (g = s)) = true) : SrtG xs [s] := by
  refine ⟨List.pairwise_cons.2 ⟨fun y hy => (by cases hy), List.Pairwise.nil⟩, fun g => ?_⟩
  rw [← gap_acc, List.mem_singleton]
  obtain ⟨h1, h2⟩ := h
  rw [List.all_eq_true] at h2
  constructor
  · rintro rfl
    cases hl : accTo xs (gap1 xs) xs.length with
    | nil => exact absurd hl h1
    | cons x l =>
      rw [hl] at h2
      have := of_decide_eq_true (h2 x (List.mem_cons_self ..))
      rw [← this]; exact List.mem_cons_self ..
  · intro hg; exact of_decide_eq_true (h2 g hg)
/-- What is known of the cube of k features. -/
structure CubeP (k m : Nat) : Prop where
  c12 : chkI 12 (cubeL k) = 0
  c256 : chkI 256 (cubeL k) = 0
  cnt : cntV (cubeL k) = ((3 ^ k : Nat) : Int)
  gap : SrtG (cubeL k) []
  chk : chkI 256 (lessTo k m (2 ^ k)) = 0
  less : SrtG (lessTo k m (2 ^ k)) (if k = 1 then [] else [cubeS k m])
theorem cube_props {k m : Nat} (hk : 1 ≤ k) (hk3 : k ≤ 3) (hm : m < 2 ^ k) : CubeP k m := by
  obtain ⟨i, rfl⟩ : ∃ i : Nat, k = i + 1 := ⟨k - 1, by omega⟩
  have hi : i < 3 := by omega
  have hm8 : m < 8 := Nat.lt_of_lt_of_le hm (by have := Nat.pow_le_pow_right (n := 2) (by decide) hk3; simpa using this)
  have h1 := cube_chk ⟨i, hi⟩
  have h2 := cube_cnt ⟨i, hi⟩
  have h3 := cube_gap ⟨i, hi⟩
  have h4 := less_chk ⟨i, hi⟩ ⟨m, hm8⟩ hm
  refine ⟨h1.1, h1.2, ?_, srt_nil h3, h4, ?_⟩
  · unfold cntV; rw [if_pos h1.1]; exact congrArg Int.ofNat h2
  · obtain rfl | rfl | rfl : i = 0 ∨ i = 1 ∨ i = 2 := by omega
    · rw [if_pos rfl]; exact srt_nil (less_gap1 ⟨m, hm⟩)
    · rw [if_neg (by decide)]; exact srt_one (less_gap2 ⟨m, hm⟩)
    · rw [if_neg (by decide)]; exact srt_one (less_gap3 ⟨m, hm8⟩)
theorem cubeL_at {k m : Nat} (hm : m < 2 ^ k) : ((cubeL k).take (m + 1)).drop m = [cubeS k m] := by
  unfold cubeL
  rw [← List.map_take, ← List.map_drop, List.take_range, show min (m + 1) (2 ^ k) = m + 1 by omega, List.range_succ, List.drop_append_of_le_length (by simp)]
  simp
/-! ### Two lists that grow side by side -/
theorem wp_app1_at {α : Type} {k : Nat} {enc : α → List Value} {P : Program} {ops : Array Oper} {rest : List Oper} {o : Oper} {a : Act} {Q : Exit → Act → World → Prop} (w00 w0 : World) (y : α) (hgd : o.guard = none) (s x : Operand) (t : TypeId)
    (ho : o.op = .call { callee := .builtin .append, args := #[s, x], argTypes := #[t, t] }) (e : TypeId) {z : Value} {bytes : Nat} (ht : P.underlying t = some (.slice e))
    (hinf : (P.info? e).map (fun i => (i.zero, i.size, i.bytes)) = some (some z, k, bytes)) (hzs : z.cells.size = k) (hk0 : 0 < k)
    (v : Value) (xs : List α) (hs : a.eval s = v) (hown : OwnK k enc w00.heap.size e w0 v xs) (hx0 : Ext w00 w0) (hx : a.eval x = .slice (some ⟨w0.heap.size, 0, none⟩) 1 1)
    (hlen : (enc y).length = k) (h1 : ∀ u ∈ enc y, u.oneCell' = true) (hN : (xs.length + 1) * bytes ≤ 140737488355328) (hmax : xs.length + 1 ≤ maxLen)
    (h : ∀ v' w', OwnK k enc w00.heap.size e w' v' (xs ++ [y]) → Ext w00 w' → (w0.alloc (.cells (enc y).toArray e)).grownBy w' v.ownBlock → (v'.ownBlock = v.ownBlock ∨ v'.ownBlock = some (w0.heap.size + 1)) → wpList P ops Q rest (a.put o.dst v') w') :
    wpList P ops Q (o :: rest) a (w0.alloc (.cells (enc y).toArray e)) := by
  obtain ⟨i, hi, hz0, hz1, hz2⟩ := info_parts hinf
  refine wpList_plain hgd fun K hK => ?_
  have hown2 := World.ownsRow.alloc hown (.cells (enc y).toArray e)
  obtain ⟨v', w', hr, h2, h3, _, h4⟩ := run_append_own_at (P := P) (w0.alloc (.cells (enc y).toArray e)) w00.heap.size t o.type e i z k bytes ht hi hz0 hz1 hz2 hzs hk0 v xs.length (xs.flatMap enc) hown2 ⟨w0.heap.size, 0, none⟩ 1 1 (enc y) (by omega) (fun j u hu => cell_new_list _ _ _ _ _ hu) h1 hmax hN (by have := hx0.le; simp; omega)
  unfold Oper.wp execOp
  simp only [ho, resolve, invoke, builtin, Sem.run_bind, Sem.run_pure, Result.andThen_ok, List.map_toArray, List.map_cons, List.map_nil, hs, hx, hr]
  refine hK _ _ (h v' w' (OwnK.of_row h2 (by simp) (by simp)) (Ext.grown (hx0.alloc _) h3 fun j hj => (World.ownsRow.lt hown j hj).1) h3 ?_)
  rw [World.size_alloc] at h4; exact h4
theorem OwnK.apart {α : Type} {k : Nat} {enc : α → List Value} {B : Nat} {e : TypeId} {w w' : World} {v : Value} {xs : List α} {row : Option Nat} (h : OwnK k enc B e w v xs) (hg : w.grownBy w' row) (hr : ∀ g, row = some g → v.ownBlock ≠ some g) : OwnK k enc B e w' v xs := by
  obtain ⟨h1, h2⟩ := h
  refine ⟨h1, ?_⟩
  rcases h2 with h2 | ⟨g', cap', cur, hv, hB, hh, r⟩
  · exact .inl h2
  · exact .inr ⟨g', cap', cur, hv, hB, (hg.block g' (Array.getElem?_eq_some_iff.1 hh).1 fun e1 => hr g' e1.symm (by rw [hv]; rfl)).trans hh, r⟩
def Apart (v u : Value) : Prop := ∀ g, v.ownBlock = some g → u.ownBlock ≠ some g
theorem Apart.symm {v u : Value} (h : Apart v u) : Apart u v := fun g h1 h2 => h g h2 h1
theorem Apart.grow {α : Type} {k : Nat} {enc : α → List Value} {B : Nat} {e : TypeId} {w : World} {v v' u : Value} {xs : List α} (h : Apart v u) (hu : OwnK k enc B e w u xs) (h1 : v'.ownBlock = v.ownBlock ∨ v'.ownBlock = some (w.heap.size + 1)) : Apart v' u := fun g e1 e2 => by
  rcases h1 with h1 | h1
  · exact h g (by rw [← h1]; exact e1) e2
  · obtain ⟨cur, hc⟩ := OwnK.blk hu e2
    have := (Array.getElem?_eq_some_iff.1 hc).1
    rw [h1] at e1
    cases e1; omega
set_option maxHeartbeats 1000000 in
set_option maxRecDepth 20000 in
theorem naturalCubes_any (z0 z1 : Nat) (w : World) (h0 : z0 < 256) (h1 : z1 < 256) (hT : TabOk w) (hT2 : Tab64 w) :
    Calls Tryd.prog 8 #[.int .u8 z0, .int .u8 z1] w fun e w' => e = .returned (.bool true) ∧ Ext w w' := by
  go_enter Tryd.func8, Tryd.ntmps8
  obtain hq | hq | hq : z0 % 3 = 0 ∨ z0 % 3 = 1 ∨ z0 % 3 = 2 := by omega
  · have hqi : (z0 : Int) % 3 = 0 := by omega
    have hkm : ((z1 : Int) % 2) = ((z1 % 2 : Nat) : Int) := by omega
    have hm := Nat.mod_lt z1 (show 0 < 2 by decide)
    have hC := cube_props (k := 1) (m := z1 % 2) (by decide) (by decide) hm
    generalize z1 % 2 = m at *
    replace hC := Lib.hid hC
    go_wp2_with fail
    rw [hkm]
    replace hkm := Lib.hid hkm
    replace hq := Lib.hid hq
    replace hqi := Lib.hid hqi
    go_loopw [6, 7, 9, 10] (fun av lv xv _ wr => ∃ x : Nat, x ≤ 2 ∧ xv = .int .i64 x ∧ Ext w wr ∧ OwnS w.heap.size 27 wr av ((List.range x).map (cubeS 1)) ∧ OwnS w.heap.size 27 wr lv (lessTo 1 m x) ∧ Hid (Apart av lv)) (fun _ _ xv _ _ => 2 - (intOf xv).toNat)
    case atStart => exact ⟨0, Nat.zero_le _, rfl, Ext.refl _, OwnK.nil _ _ _, OwnK.nil _ _ _, Lib.hid (fun g h => by cases h)⟩
    case round =>
      obtain ⟨x, hx8, rfl, hx, hA, hL, hap⟩ := hrel
      by_cases hlt : x < 2
      · have hki : (x : Int) < 2 := by omega
        have hrs : Hid ((List.range (x + 1)).map (cubeS 1) = (List.range x).map (cubeS 1) ++ [cubeS 1 x]) := Lib.hid (by rw [List.range_succ, List.map_append]; rfl)
        have hls : Hid (lessTo 1 m (x + 1) = if x = m then lessTo 1 m x else lessTo 1 m x ++ [cubeS 1 x]) := Lib.hid rfl
        have hlA : ((List.range x).map (cubeS 1)).length ≤ 8 := by simp; omega
        have hlL : (lessTo 1 m x).length ≤ 8 := by have := lessTo_len 1 m x; omega
        have hma := fun W => made_any (BitVec.ofNat 32 x) (BitVec.ofNat 32 (2 ^ 1 - 1)) W
        have hvx : (((BitVec.ofNat 32 x).toNat : Nat) : Int) = (x : Int) := by rw [BitVec.toNat_ofNat, Nat.mod_eq_of_lt (by omega)]
        have hvx2 : IntKind.u32.wrap (x : Int) = (x : Int) := by rw [IntKind.wrap_u32]; omega
        rw [hvx] at hma
        have hcs : madeV (BitVec.ofNat 32 x) (BitVec.ofNat 32 (2 ^ 1 - 1)) = cubeS 1 x := rfl
        rw [hcs] at hma
        generalize cubeS 1 x = s at *
        generalize (List.range x).map (cubeS 1) = LA at *
        generalize lessTo 1 m x = LL at *
        have hv2 : (((BitVec.ofNat 32 (2 ^ 1 - 1)).toNat : Nat) : Int) = 2 - 1 := by decide
        rw [hv2] at hma
        clear hcs hvx hv2
        go_wp2_with fail
        refine (hma _).mono ?_
        rintro e w1 ⟨rfl, hx1⟩
        have hA := hA.kept hx1
        have hL := hL.kept hx1
        have hx := hx.trans hx1
        have hxB := hx.trans (Ext.alloc1 w1 (.cells #[.int .u32 s.p.toNat, .int .u32 s.m.toNat] 27))
        have qB := SndB.new w1 s
        have hnB : u6.ownBlock ≠ some w1.heap.size := fun e => by
          obtain ⟨cur, hc⟩ := OwnK.blk hA e
          have := (Array.getElem?_eq_some_iff.1 hc).1
          omega
        have hA := hA.kept (Ext.alloc1 w1 (.cells #[.int .u32 s.p.toNat, .int .u32 s.m.toNat] 27))
        have hL := hL.kept (Ext.alloc1 w1 (.cells #[.int .u32 s.p.toNat, .int .u32 s.m.toNat] 27))
        obtain ⟨k0, k1⟩ := qB.cells
        clear hx1 hma hx
        by_cases hxm : x = m
        · have hb1 : ((x : Int) != (m : Int)) = false := by subst hxm; simp
          rw [if_pos hxm] at hls
          replace hxm := Lib.hid hxm
          go_wp2_with (at_builtin; refine wp_app1_at w (w1.alloc (.cells #[.int .u32 s.p.toNat, .int .u32 s.m.toNat] 27)) s rfl _ _ 22 rfl 27 Tryd.underlying22 info_snd rfl (by decide) _ _ rfl hA hxB (by first | rfl | (rw [World.size_alloc]; rfl)) (Snd.len _) (Snd.one _) (by omega) (by unfold maxLen; omega) ?_; intro v5 w10 o5 x5 g5 a5)
          have hL2 := (hL.kept (Ext.alloc1 (w1.alloc (.cells #[.int .u32 s.p.toNat, .int .u32 s.m.toNat] 27)) (.cells (Snd.enc s).toArray 27))).apart g5 hap.out
          have hap2 := Lib.hid (hap.out.grow hL a5)
          (first | exact ⟨⟨x + 1, hlt, by go_num, x5, by rw [hrs.out]; exact o5, by rw [hls.out]; exact hL2, hap2⟩, (by simp [intOf]; omega)⟩ | (go_roundw; case rel => exact ⟨x + 1, hlt, by go_num, x5, by rw [hrs.out]; exact o5, by rw [hls.out]; exact hL2, hap2⟩; case measure => exact (by simp [intOf]; omega)))
        · have hb1 : ((x : Int) != (m : Int)) = true := by rw [bne_iff_ne]; omega
          rw [if_neg hxm] at hls
          replace hxm := Lib.hid hxm
          go_wp2_with (first
            | ((at_builtin; refine wp_app1_at w (w1.alloc (.cells #[.int .u32 s.p.toNat, .int .u32 s.m.toNat] 27)) s rfl _ _ 22 rfl 27 Tryd.underlying22 info_snd rfl (by decide) _ _ rfl hA hxB (by first | rfl | (rw [World.size_alloc]; rfl)) (Snd.len _) (Snd.one _) (by omega) (by unfold maxLen; omega) ?_; intro v5 w10 o5 x5 g5 a5)
               have hL2 := (hL.kept (Ext.alloc1 (w1.alloc (.cells #[.int .u32 s.p.toNat, .int .u32 s.m.toNat] 27)) (.cells (Snd.enc s).toArray 27))).apart g5 hap.out
               have hap2 := Lib.hid (hap.out.grow hL a5)
               have qB2 := (qB.ext (Ext.alloc1 (w1.alloc (.cells #[.int .u32 s.p.toNat, .int .u32 s.m.toNat] 27)) (.cells (Snd.enc s).toArray 27))).grown g5 (fun e => hnB e.symm)
               clear k0 k1 qB g5 a5 hA hL hap hxB hnB
               obtain ⟨k0, k1⟩ := qB2.cells)
            | (at_builtin; refine wp_app1_at w w10 s rfl _ _ 22 rfl 27 Tryd.underlying22 info_snd rfl (by decide) _ _ rfl hL2 x5 (by first | rfl | (rw [World.size_alloc]; rfl)) (Snd.len _) (Snd.one _) (by omega) (by unfold maxLen; omega) ?_; intro v6 w11 o6 x6 g6 a6))
          have hap3 := Lib.hid (Apart.symm (hap2.out.symm.grow o5 a6))
          have o5 := (o5.kept (Ext.alloc1 w10 (.cells (Snd.enc s).toArray 27))).apart g6 hap2.out.symm
          (first | exact ⟨⟨x + 1, hlt, by go_num, x6, by rw [hrs.out]; exact o5, by rw [hls.out]; exact o6, hap3⟩, (by simp [intOf]; omega)⟩ | (go_roundw; case rel => exact ⟨x + 1, hlt, by go_num, x6, by rw [hrs.out]; exact o5, by rw [hls.out]; exact o6, hap3⟩; case measure => exact (by simp [intOf]; omega)))
      · obtain rfl : x = 2 := by omega
        have hcL : (List.range 2).map (cubeS 1) = cubeL 1 := rfl
        rw [hcL] at hA
        obtain ⟨c12, c256, ccnt, cgap, cchk, cless⟩ := hC.out
        have hLK : lessTo 1 m 2 = lessTo 1 m (2 ^ 1) := rfl
        rw [hLK] at hL
        generalize lessTo 1 m (2 ^ 1) = LL at *
        obtain ⟨aA, nA, cA, hnA, rfl, rA⟩ := OwnK.rdn Snd.len hA
        obtain rfl : nA = 2 := hnA
        obtain ⟨aL, nL, cL, hnL, rfl, rL⟩ := OwnK.rdn Snd.len hL
        replace hnL := Lib.hid hnL
        have hcn := fun W (h : RdS W aA 2 cA (cubeL 1)) (h2 : Tab64 W) => count_any aA 2 cA (cubeL 1) W h h2
        have hgA := fun W (h : RdS W aA 2 cA (cubeL 1)) (h2 : TabOk W) => gaps_any aA 2 cA (cubeL 1) W h h2
        have hgL := fun W (h : RdS W aL nL cL LL) (h2 : TabOk W) => gaps_any aL nL cL LL W h h2
        unfold RetCn at hcn
        unfold RetG at hgA hgL
        have hN3 : ((3 ^ 1 : Nat) : Int) = 3 := by decide
        rw [hN3] at ccnt
        rw [c12, ccnt] at hcn
        rw [c256] at hgA
        rw [cchk] at hgL
        clear hN3 ccnt c12 c256 cchk hcL hLK hA hL hap hlt hx8 hC
        go_wp2_with fail
        refine (hcn _ rA (hT2.ext hx)).mono ?_
        rintro e w2 ⟨rfl, hx2⟩
        have hx := hx.trans hx2
        have rA := rA.ext hx2
        have rL := rL.ext hx2
        clear hx2 hcn
        go_wp2_with fail
        refine (hgA _ rA (hT.ext hx)).mono ?_
        rintro e w3 ⟨v3, U, rfl, hown3, hU, _, hx3⟩
        obtain rfl : U = [] := SrtG.uniq (hU (by trivial)) cgap
        obtain ⟨aU, nU, cU, hnU, rfl, _⟩ := OwnK.rdn Snd.len hown3
        obtain rfl : nU = 0 := hnU
        have hx := hx.trans hx3
        have rA := rA.ext hx3
        have rL := rL.ext hx3
        clear hx3 hgA hown3 hU
        go_wp2_with fail
        refine (hgL _ rL (hT.ext hx)).mono ?_
        rintro e w4 ⟨v4, V, rfl, hown4, hV, _, hx4⟩
        have hV := SrtG.uniq (hV (by trivial)) cless
        obtain ⟨aV, nV, cV, hnV, rfl, rV⟩ := OwnK.rdn Snd.len hown4
        replace hnV := Lib.hid hnV
        have hx := hx.trans hx4
        have rA := rA.ext hx4
        clear hx4 hgL hown4 cless cgap rL
        replace hV := Lib.hid hV
        go_wp2_with fail
        go_loopw [17, 66] (fun pv jv wr => ∃ j : Nat, j ≤ 1 ∧ jv = .int .i64 j ∧ pv = .int .i64 ((3 ^ j : Nat) : Int) ∧ Ext w4 wr) (fun _ jv _ => 1 - (intOf jv).toNat)
        case atStart => exact ⟨0, Nat.zero_le _, rfl, rfl, Ext.refl _⟩
        case round =>
          obtain ⟨j, hj, rfl, rfl, hxr⟩ := hrel
          by_cases hlt : j < 1
          · have hkj : (j : Int) < 1 := by omega
            have hp : 3 ^ (j + 1) = 3 ^ j * 3 := Nat.pow_succ ..
            have hp9 : 3 ^ j ≤ 9 := by
              have : 3 ^ j ≤ 3 ^ 2 := Nat.pow_le_pow_right (by decide) (by omega)
              simpa using this
            generalize 3 ^ j = pj at *
            replace hp := Lib.hid hp
            go_wp2_with fail
            (first | exact ⟨⟨j + 1, hlt, by go_num, by rw [hp.out]; go_num, hxr⟩, (by simp [intOf]; omega)⟩ | (go_roundw; case rel => exact ⟨j + 1, hlt, by go_num, by rw [hp.out]; go_num, hxr⟩; case measure => exact (by simp [intOf]; omega)))
          · obtain rfl : j = 1 := by omega
            have hN3 : ((3 ^ 1 : Nat) : Int) = 3 := by decide
            rw [hN3]
            have hxf := hx.trans hxr
            have rA := rA.ext hxr
            have rV := rV.ext hxr
            have hV := hV.out
            clear hxr hlt
            obtain rfl : V = [] := hV
            obtain rfl : nV = 0 := hnV.out
            go_wp2_with fail
            refine (works_any _ (hT.ext hxf) (hT2.ext hxf)).mono ?_
            rintro e wz ⟨rfl, hxz⟩
            go_wp2_with fail
            go_ret
            exact ⟨rfl, (hxf).trans hxz⟩
  · have hqi : (z0 : Int) % 3 = 1 := by omega
    have hkm : ((z1 : Int) % 4) = ((z1 % 4 : Nat) : Int) := by omega
    have hm := Nat.mod_lt z1 (show 0 < 4 by decide)
    have hC := cube_props (k := 2) (m := z1 % 4) (by decide) (by decide) hm
    generalize z1 % 4 = m at *
    replace hC := Lib.hid hC
    go_wp2_with fail
    rw [hkm]
    replace hkm := Lib.hid hkm
    replace hq := Lib.hid hq
    replace hqi := Lib.hid hqi
    go_loopw [6, 7, 9, 10] (fun av lv xv _ wr => ∃ x : Nat, x ≤ 4 ∧ xv = .int .i64 x ∧ Ext w wr ∧ OwnS w.heap.size 27 wr av ((List.range x).map (cubeS 2)) ∧ OwnS w.heap.size 27 wr lv (lessTo 2 m x) ∧ Hid (Apart av lv)) (fun _ _ xv _ _ => 4 - (intOf xv).toNat)
    case atStart => exact ⟨0, Nat.zero_le _, rfl, Ext.refl _, OwnK.nil _ _ _, OwnK.nil _ _ _, Lib.hid (fun g h => by cases h)⟩
    case round =>
      obtain ⟨x, hx8, rfl, hx, hA, hL, hap⟩ := hrel
      by_cases hlt : x < 4
      · have hki : (x : Int) < 4 := by omega
        have hrs : Hid ((List.range (x + 1)).map (cubeS 2) = (List.range x).map (cubeS 2) ++ [cubeS 2 x]) := Lib.hid (by rw [List.range_succ, List.map_append]; rfl)
        have hls : Hid (lessTo 2 m (x + 1) = if x = m then lessTo 2 m x else lessTo 2 m x ++ [cubeS 2 x]) := Lib.hid rfl
        have hlA : ((List.range x).map (cubeS 2)).length ≤ 8 := by simp; omega
        have hlL : (lessTo 2 m x).length ≤ 8 := by have := lessTo_len 2 m x; omega
        have hma := fun W => made_any (BitVec.ofNat 32 x) (BitVec.ofNat 32 (2 ^ 2 - 1)) W
        have hvx : (((BitVec.ofNat 32 x).toNat : Nat) : Int) = (x : Int) := by rw [BitVec.toNat_ofNat, Nat.mod_eq_of_lt (by omega)]
        have hvx2 : IntKind.u32.wrap (x : Int) = (x : Int) := by rw [IntKind.wrap_u32]; omega
        rw [hvx] at hma
        have hcs : madeV (BitVec.ofNat 32 x) (BitVec.ofNat 32 (2 ^ 2 - 1)) = cubeS 2 x := rfl
        rw [hcs] at hma
        generalize cubeS 2 x = s at *
        generalize (List.range x).map (cubeS 2) = LA at *
        generalize lessTo 2 m x = LL at *
        have hv2 : (((BitVec.ofNat 32 (2 ^ 2 - 1)).toNat : Nat) : Int) = 4 - 1 := by decide
        rw [hv2] at hma
        clear hcs hvx hv2
        go_wp2_with fail
        refine (hma _).mono ?_
        rintro e w1 ⟨rfl, hx1⟩
        have hA := hA.kept hx1
        have hL := hL.kept hx1
        have hx := hx.trans hx1
        have hxB := hx.trans (Ext.alloc1 w1 (.cells #[.int .u32 s.p.toNat, .int .u32 s.m.toNat] 27))
        have qB := SndB.new w1 s
        have hnB : u6.ownBlock ≠ some w1.heap.size := fun e => by
          obtain ⟨cur, hc⟩ := OwnK.blk hA e
          have := (Array.getElem?_eq_some_iff.1 hc).1
          omega
        have hA := hA.kept (Ext.alloc1 w1 (.cells #[.int .u32 s.p.toNat, .int .u32 s.m.toNat] 27))
        have hL := hL.kept (Ext.alloc1 w1 (.cells #[.int .u32 s.p.toNat, .int .u32 s.m.toNat] 27))
        obtain ⟨k0, k1⟩ := qB.cells
        clear hx1 hma hx
        by_cases hxm : x = m
        · have hb1 : ((x : Int) != (m : Int)) = false := by subst hxm; simp
          rw [if_pos hxm] at hls
          replace hxm := Lib.hid hxm
          go_wp2_with (at_builtin; refine wp_app1_at w (w1.alloc (.cells #[.int .u32 s.p.toNat, .int .u32 s.m.toNat] 27)) s rfl _ _ 22 rfl 27 Tryd.underlying22 info_snd rfl (by decide) _ _ rfl hA hxB (by first | rfl | (rw [World.size_alloc]; rfl)) (Snd.len _) (Snd.one _) (by omega) (by unfold maxLen; omega) ?_; intro v5 w10 o5 x5 g5 a5)
          have hL2 := (hL.kept (Ext.alloc1 (w1.alloc (.cells #[.int .u32 s.p.toNat, .int .u32 s.m.toNat] 27)) (.cells (Snd.enc s).toArray 27))).apart g5 hap.out
          have hap2 := Lib.hid (hap.out.grow hL a5)
          (first | exact ⟨⟨x + 1, hlt, by go_num, x5, by rw [hrs.out]; exact o5, by rw [hls.out]; exact hL2, hap2⟩, (by simp [intOf]; omega)⟩ | (go_roundw; case rel => exact ⟨x + 1, hlt, by go_num, x5, by rw [hrs.out]; exact o5, by rw [hls.out]; exact hL2, hap2⟩; case measure => exact (by simp [intOf]; omega)))
        · have hb1 : ((x : Int) != (m : Int)) = true := by rw [bne_iff_ne]; omega
          rw [if_neg hxm] at hls
          replace hxm := Lib.hid hxm
          go_wp2_with (first
            | ((at_builtin; refine wp_app1_at w (w1.alloc (.cells #[.int .u32 s.p.toNat, .int .u32 s.m.toNat] 27)) s rfl _ _ 22 rfl 27 Tryd.underlying22 info_snd rfl (by decide) _ _ rfl hA hxB (by first | rfl | (rw [World.size_alloc]; rfl)) (Snd.len _) (Snd.one _) (by omega) (by unfold maxLen; omega) ?_; intro v5 w10 o5 x5 g5 a5)
               have hL2 := (hL.kept (Ext.alloc1 (w1.alloc (.cells #[.int .u32 s.p.toNat, .int .u32 s.m.toNat] 27)) (.cells (Snd.enc s).toArray 27))).apart g5 hap.out
               have hap2 := Lib.hid (hap.out.grow hL a5)
               have qB2 := (qB.ext (Ext.alloc1 (w1.alloc (.cells #[.int .u32 s.p.toNat, .int .u32 s.m.toNat] 27)) (.cells (Snd.enc s).toArray 27))).grown g5 (fun e => hnB e.symm)
               clear k0 k1 qB g5 a5 hA hL hap hxB hnB
               obtain ⟨k0, k1⟩ := qB2.cells)
            | (at_builtin; refine wp_app1_at w w10 s rfl _ _ 22 rfl 27 Tryd.underlying22 info_snd rfl (by decide) _ _ rfl hL2 x5 (by first | rfl | (rw [World.size_alloc]; rfl)) (Snd.len _) (Snd.one _) (by omega) (by unfold maxLen; omega) ?_; intro v6 w11 o6 x6 g6 a6))
          have hap3 := Lib.hid (Apart.symm (hap2.out.symm.grow o5 a6))
          have o5 := (o5.kept (Ext.alloc1 w10 (.cells (Snd.enc s).toArray 27))).apart g6 hap2.out.symm
          (first | exact ⟨⟨x + 1, hlt, by go_num, x6, by rw [hrs.out]; exact o5, by rw [hls.out]; exact o6, hap3⟩, (by simp [intOf]; omega)⟩ | (go_roundw; case rel => exact ⟨x + 1, hlt, by go_num, x6, by rw [hrs.out]; exact o5, by rw [hls.out]; exact o6, hap3⟩; case measure => exact (by simp [intOf]; omega)))
      · obtain rfl : x = 4 := by omega
        have hcL : (List.range 4).map (cubeS 2) = cubeL 2 := rfl
        rw [hcL] at hA
        obtain ⟨c12, c256, ccnt, cgap, cchk, cless⟩ := hC.out
        have hLK : lessTo 2 m 4 = lessTo 2 m (2 ^ 2) := rfl
        rw [hLK] at hL
        generalize lessTo 2 m (2 ^ 2) = LL at *
        obtain ⟨aA, nA, cA, hnA, rfl, rA⟩ := OwnK.rdn Snd.len hA
        obtain rfl : nA = 4 := hnA
        obtain ⟨aL, nL, cL, hnL, rfl, rL⟩ := OwnK.rdn Snd.len hL
        replace hnL := Lib.hid hnL
        have hcn := fun W (h : RdS W aA 4 cA (cubeL 2)) (h2 : Tab64 W) => count_any aA 4 cA (cubeL 2) W h h2
        have hgA := fun W (h : RdS W aA 4 cA (cubeL 2)) (h2 : TabOk W) => gaps_any aA 4 cA (cubeL 2) W h h2
        have hgL := fun W (h : RdS W aL nL cL LL) (h2 : TabOk W) => gaps_any aL nL cL LL W h h2
        unfold RetCn at hcn
        unfold RetG at hgA hgL
        have hN3 : ((3 ^ 2 : Nat) : Int) = 9 := by decide
        rw [hN3] at ccnt
        rw [c12, ccnt] at hcn
        rw [c256] at hgA
        rw [cchk] at hgL
        clear hN3 ccnt c12 c256 cchk hcL hLK hA hL hap hlt hx8 hC
        go_wp2_with fail
        refine (hcn _ rA (hT2.ext hx)).mono ?_
        rintro e w2 ⟨rfl, hx2⟩
        have hx := hx.trans hx2
        have rA := rA.ext hx2
        have rL := rL.ext hx2
        clear hx2 hcn
        go_wp2_with fail
        refine (hgA _ rA (hT.ext hx)).mono ?_
        rintro e w3 ⟨v3, U, rfl, hown3, hU, _, hx3⟩
        obtain rfl : U = [] := SrtG.uniq (hU (by trivial)) cgap
        obtain ⟨aU, nU, cU, hnU, rfl, _⟩ := OwnK.rdn Snd.len hown3
        obtain rfl : nU = 0 := hnU
        have hx := hx.trans hx3
        have rA := rA.ext hx3
        have rL := rL.ext hx3
        clear hx3 hgA hown3 hU
        go_wp2_with fail
        refine (hgL _ rL (hT.ext hx)).mono ?_
        rintro e w4 ⟨v4, V, rfl, hown4, hV, _, hx4⟩
        have hV := SrtG.uniq (hV (by trivial)) cless
        obtain ⟨aV, nV, cV, hnV, rfl, rV⟩ := OwnK.rdn Snd.len hown4
        replace hnV := Lib.hid hnV
        have hx := hx.trans hx4
        have rA := rA.ext hx4
        clear hx4 hgL hown4 cless cgap rL
        replace hV := Lib.hid hV
        go_wp2_with fail
        go_loopw [17, 66] (fun pv jv wr => ∃ j : Nat, j ≤ 2 ∧ jv = .int .i64 j ∧ pv = .int .i64 ((3 ^ j : Nat) : Int) ∧ Ext w4 wr) (fun _ jv _ => 2 - (intOf jv).toNat)
        case atStart => exact ⟨0, Nat.zero_le _, rfl, rfl, Ext.refl _⟩
        case round =>
          obtain ⟨j, hj, rfl, rfl, hxr⟩ := hrel
          by_cases hlt : j < 2
          · have hkj : (j : Int) < 2 := by omega
            have hp : 3 ^ (j + 1) = 3 ^ j * 3 := Nat.pow_succ ..
            have hp9 : 3 ^ j ≤ 9 := by
              have : 3 ^ j ≤ 3 ^ 2 := Nat.pow_le_pow_right (by decide) (by omega)
              simpa using this
            generalize 3 ^ j = pj at *
            replace hp := Lib.hid hp
            go_wp2_with fail
            (first | exact ⟨⟨j + 1, hlt, by go_num, by rw [hp.out]; go_num, hxr⟩, (by simp [intOf]; omega)⟩ | (go_roundw; case rel => exact ⟨j + 1, hlt, by go_num, by rw [hp.out]; go_num, hxr⟩; case measure => exact (by simp [intOf]; omega)))
          · obtain rfl : j = 2 := by omega
            have hN3 : ((3 ^ 2 : Nat) : Int) = 9 := by decide
            rw [hN3]
            have hxf := hx.trans hxr
            have rA := rA.ext hxr
            have rV := rV.ext hxr
            have hV := hV.out
            clear hxr hlt
            obtain rfl : V = [cubeS 2 m] := hV
            obtain rfl : nV = 1 := hnV.out
            have hsl := fun W => run_sub_lh (P := Tryd.prog) elem_snds size_snds aA 4 cA m (m + 1) (by omega) (by have := rA.le; omega) W
            have rS := rA.sub (l := m) (m := m + 1) (by omega) (by omega)
            rw [cubeL_at hm] at rS
            push_cast at hsl
            rw [show m + 1 - m = 1 by omega] at rS
            have heq := lsame_any aV 1 cV [cubeS 2 m] (subA 2 aA cA m) 1 (cA - m) [cubeS 2 m] _ rV rS
            rw [decide_eq_true rfl] at heq
            have hmK : (m : Int) + 1 ≤ 4 := by omega
            go_wp2_with fail
            refine heq.mono ?_
            rintro e w5 ⟨rfl, hx5⟩
            have hxf := hxf.trans hx5
            clear hx5 heq
            go_wp2_with fail
            refine (works_any _ (hT.ext hxf) (hT2.ext hxf)).mono ?_
            rintro e wz ⟨rfl, hxz⟩
            go_wp2_with fail
            go_ret
            exact ⟨rfl, (hxf).trans hxz⟩
  · have hqi : (z0 : Int) % 3 = 2 := by omega
    have hkm : ((z1 : Int) % 8) = ((z1 % 8 : Nat) : Int) := by omega
    have hm := Nat.mod_lt z1 (show 0 < 8 by decide)
    have hC := cube_props (k := 3) (m := z1 % 8) (by decide) (by decide) hm
    generalize z1 % 8 = m at *
    replace hC := Lib.hid hC
    go_wp2_with fail
    rw [hkm]
    replace hkm := Lib.hid hkm
    replace hq := Lib.hid hq
    replace hqi := Lib.hid hqi
    go_loopw [6, 7, 9, 10] (fun av lv xv _ wr => ∃ x : Nat, x ≤ 8 ∧ xv = .int .i64 x ∧ Ext w wr ∧ OwnS w.heap.size 27 wr av ((List.range x).map (cubeS 3)) ∧ OwnS w.heap.size 27 wr lv (lessTo 3 m x) ∧ Hid (Apart av lv)) (fun _ _ xv _ _ => 8 - (intOf xv).toNat)
    case atStart => exact ⟨0, Nat.zero_le _, rfl, Ext.refl _, OwnK.nil _ _ _, OwnK.nil _ _ _, Lib.hid (fun g h => by cases h)⟩
    case round =>
      obtain ⟨x, hx8, rfl, hx, hA, hL, hap⟩ := hrel
      by_cases hlt : x < 8
      · have hki : (x : Int) < 8 := by omega
        have hrs : Hid ((List.range (x + 1)).map (cubeS 3) = (List.range x).map (cubeS 3) ++ [cubeS 3 x]) := Lib.hid (by rw [List.range_succ, List.map_append]; rfl)
        have hls : Hid (lessTo 3 m (x + 1) = if x = m then lessTo 3 m x else lessTo 3 m x ++ [cubeS 3 x]) := Lib.hid rfl
        have hlA : ((List.range x).map (cubeS 3)).length ≤ 8 := by simp; omega
        have hlL : (lessTo 3 m x).length ≤ 8 := by have := lessTo_len 3 m x; omega
        have hma := fun W => made_any (BitVec.ofNat 32 x) (BitVec.ofNat 32 (2 ^ 3 - 1)) W
        have hvx : (((BitVec.ofNat 32 x).toNat : Nat) : Int) = (x : Int) := by rw [BitVec.toNat_ofNat, Nat.mod_eq_of_lt (by omega)]
        have hvx2 : IntKind.u32.wrap (x : Int) = (x : Int) := by rw [IntKind.wrap_u32]; omega
        rw [hvx] at hma
        have hcs : madeV (BitVec.ofNat 32 x) (BitVec.ofNat 32 (2 ^ 3 - 1)) = cubeS 3 x := rfl
        rw [hcs] at hma
        generalize cubeS 3 x = s at *
        generalize (List.range x).map (cubeS 3) = LA at *
        generalize lessTo 3 m x = LL at *
        have hv2 : (((BitVec.ofNat 32 (2 ^ 3 - 1)).toNat : Nat) : Int) = 8 - 1 := by decide
        rw [hv2] at hma
        clear hcs hvx hv2
        go_wp2_with fail
        refine (hma _).mono ?_
        rintro e w1 ⟨rfl, hx1⟩
        have hA := hA.kept hx1
        have hL := hL.kept hx1
        have hx := hx.trans hx1
        have hxB := hx.trans (Ext.alloc1 w1 (.cells #[.int .u32 s.p.toNat, .int .u32 s.m.toNat] 27))
        have qB := SndB.new w1 s
        have hnB : u6.ownBlock ≠ some w1.heap.size := fun e => by
          obtain ⟨cur, hc⟩ := OwnK.blk hA e
          have := (Array.getElem?_eq_some_iff.1 hc).1
          omega
        have hA := hA.kept (Ext.alloc1 w1 (.cells #[.int .u32 s.p.toNat, .int .u32 s.m.toNat] 27))
        have hL := hL.kept (Ext.alloc1 w1 (.cells #[.int .u32 s.p.toNat, .int .u32 s.m.toNat] 27))
        obtain ⟨k0, k1⟩ := qB.cells
        clear hx1 hma hx
        by_cases hxm : x = m
        · have hb1 : ((x : Int) != (m : Int)) = false := by subst hxm; simp
          rw [if_pos hxm] at hls
          replace hxm := Lib.hid hxm
          go_wp2_with (at_builtin; refine wp_app1_at w (w1.alloc (.cells #[.int .u32 s.p.toNat, .int .u32 s.m.toNat] 27)) s rfl _ _ 22 rfl 27 Tryd.underlying22 info_snd rfl (by decide) _ _ rfl hA hxB (by first | rfl | (rw [World.size_alloc]; rfl)) (Snd.len _) (Snd.one _) (by omega) (by unfold maxLen; omega) ?_; intro v5 w10 o5 x5 g5 a5)
          have hL2 := (hL.kept (Ext.alloc1 (w1.alloc (.cells #[.int .u32 s.p.toNat, .int .u32 s.m.toNat] 27)) (.cells (Snd.enc s).toArray 27))).apart g5 hap.out
          have hap2 := Lib.hid (hap.out.grow hL a5)
          (first | exact ⟨⟨x + 1, hlt, by go_num, x5, by rw [hrs.out]; exact o5, by rw [hls.out]; exact hL2, hap2⟩, (by simp [intOf]; omega)⟩ | (go_roundw; case rel => exact ⟨x + 1, hlt, by go_num, x5, by rw [hrs.out]; exact o5, by rw [hls.out]; exact hL2, hap2⟩; case measure => exact (by simp [intOf]; omega)))
        · have hb1 : ((x : Int) != (m : Int)) = true := by rw [bne_iff_ne]; omega
          rw [if_neg hxm] at hls
          replace hxm := Lib.hid hxm
          go_wp2_with (first
            | ((at_builtin; refine wp_app1_at w (w1.alloc (.cells #[.int .u32 s.p.toNat, .int .u32 s.m.toNat] 27)) s rfl _ _ 22 rfl 27 Tryd.underlying22 info_snd rfl (by decide) _ _ rfl hA hxB (by first | rfl | (rw [World.size_alloc]; rfl)) (Snd.len _) (Snd.one _) (by omega) (by unfold maxLen; omega) ?_; intro v5 w10 o5 x5 g5 a5)
               have hL2 := (hL.kept (Ext.alloc1 (w1.alloc (.cells #[.int .u32 s.p.toNat, .int .u32 s.m.toNat] 27)) (.cells (Snd.enc s).toArray 27))).apart g5 hap.out
               have hap2 := Lib.hid (hap.out.grow hL a5)
               have qB2 := (qB.ext (Ext.alloc1 (w1.alloc (.cells #[.int .u32 s.p.toNat, .int .u32 s.m.toNat] 27)) (.cells (Snd.enc s).toArray 27))).grown g5 (fun e => hnB e.symm)
               clear k0 k1 qB g5 a5 hA hL hap hxB hnB
               obtain ⟨k0, k1⟩ := qB2.cells)
            | (at_builtin; refine wp_app1_at w w10 s rfl _ _ 22 rfl 27 Tryd.underlying22 info_snd rfl (by decide) _ _ rfl hL2 x5 (by first | rfl | (rw [World.size_alloc]; rfl)) (Snd.len _) (Snd.one _) (by omega) (by unfold maxLen; omega) ?_; intro v6 w11 o6 x6 g6 a6))
          have hap3 := Lib.hid (Apart.symm (hap2.out.symm.grow o5 a6))
          have o5 := (o5.kept (Ext.alloc1 w10 (.cells (Snd.enc s).toArray 27))).apart g6 hap2.out.symm
          (first | exact ⟨⟨x + 1, hlt, by go_num, x6, by rw [hrs.out]; exact o5, by rw [hls.out]; exact o6, hap3⟩, (by simp [intOf]; omega)⟩ | (go_roundw; case rel => exact ⟨x + 1, hlt, by go_num, x6, by rw [hrs.out]; exact o5, by rw [hls.out]; exact o6, hap3⟩; case measure => exact (by simp [intOf]; omega)))
      · obtain rfl : x = 8 := by omega
        have hcL : (List.range 8).map (cubeS 3) = cubeL 3 := rfl
        rw [hcL] at hA
        obtain ⟨c12, c256, ccnt, cgap, cchk, cless⟩ := hC.out
        have hLK : lessTo 3 m 8 = lessTo 3 m (2 ^ 3) := rfl
        rw [hLK] at hL
        generalize lessTo 3 m (2 ^ 3) = LL at *
        obtain ⟨aA, nA, cA, hnA, rfl, rA⟩ := OwnK.rdn Snd.len hA
        obtain rfl : nA = 8 := hnA
        obtain ⟨aL, nL, cL, hnL, rfl, rL⟩ := OwnK.rdn Snd.len hL
        replace hnL := Lib.hid hnL
        have hcn := fun W (h : RdS W aA 8 cA (cubeL 3)) (h2 : Tab64 W) => count_any aA 8 cA (cubeL 3) W h h2
        have hgA := fun W (h : RdS W aA 8 cA (cubeL 3)) (h2 : TabOk W) => gaps_any aA 8 cA (cubeL 3) W h h2
        have hgL := fun W (h : RdS W aL nL cL LL) (h2 : TabOk W) => gaps_any aL nL cL LL W h h2
        unfold RetCn at hcn
        unfold RetG at hgA hgL
        have hN3 : ((3 ^ 3 : Nat) : Int) = 27 := by decide
        rw [hN3] at ccnt
        rw [c12, ccnt] at hcn
        rw [c256] at hgA
        rw [cchk] at hgL
        clear hN3 ccnt c12 c256 cchk hcL hLK hA hL hap hlt hx8 hC
        go_wp2_with fail
        refine (hcn _ rA (hT2.ext hx)).mono ?_
        rintro e w2 ⟨rfl, hx2⟩
        have hx := hx.trans hx2
        have rA := rA.ext hx2
        have rL := rL.ext hx2
        clear hx2 hcn
        go_wp2_with fail
        refine (hgA _ rA (hT.ext hx)).mono ?_
        rintro e w3 ⟨v3, U, rfl, hown3, hU, _, hx3⟩
        obtain rfl : U = [] := SrtG.uniq (hU (by trivial)) cgap
        obtain ⟨aU, nU, cU, hnU, rfl, _⟩ := OwnK.rdn Snd.len hown3
        obtain rfl : nU = 0 := hnU
        have hx := hx.trans hx3
        have rA := rA.ext hx3
        have rL := rL.ext hx3
        clear hx3 hgA hown3 hU
        go_wp2_with fail
        refine (hgL _ rL (hT.ext hx)).mono ?_
        rintro e w4 ⟨v4, V, rfl, hown4, hV, _, hx4⟩
        have hV := SrtG.uniq (hV (by trivial)) cless
        obtain ⟨aV, nV, cV, hnV, rfl, rV⟩ := OwnK.rdn Snd.len hown4
        replace hnV := Lib.hid hnV
        have hx := hx.trans hx4
        have rA := rA.ext hx4
        clear hx4 hgL hown4 cless cgap rL
        replace hV := Lib.hid hV
        go_wp2_with fail
        go_loopw [17, 66] (fun pv jv wr => ∃ j : Nat, j ≤ 3 ∧ jv = .int .i64 j ∧ pv = .int .i64 ((3 ^ j : Nat) : Int) ∧ Ext w4 wr) (fun _ jv _ => 3 - (intOf jv).toNat)
        case atStart => exact ⟨0, Nat.zero_le _, rfl, rfl, Ext.refl _⟩
        case round =>
          obtain ⟨j, hj, rfl, rfl, hxr⟩ := hrel
          by_cases hlt : j < 3
          · have hkj : (j : Int) < 3 := by omega
            have hp : 3 ^ (j + 1) = 3 ^ j * 3 := Nat.pow_succ ..
            have hp9 : 3 ^ j ≤ 9 := by
              have : 3 ^ j ≤ 3 ^ 2 := Nat.pow_le_pow_right (by decide) (by omega)
              simpa using this
            generalize 3 ^ j = pj at *
            replace hp := Lib.hid hp
            go_wp2_with fail
            (first | exact ⟨⟨j + 1, hlt, by go_num, by rw [hp.out]; go_num, hxr⟩, (by simp [intOf]; omega)⟩ | (go_roundw; case rel => exact ⟨j + 1, hlt, by go_num, by rw [hp.out]; go_num, hxr⟩; case measure => exact (by simp [intOf]; omega)))
          · obtain rfl : j = 3 := by omega
            have hN3 : ((3 ^ 3 : Nat) : Int) = 27 := by decide
            rw [hN3]
            have hxf := hx.trans hxr
            have rA := rA.ext hxr
            have rV := rV.ext hxr
            have hV := hV.out
            clear hxr hlt
            obtain rfl : V = [cubeS 3 m] := hV
            obtain rfl : nV = 1 := hnV.out
            have hsl := fun W => run_sub_lh (P := Tryd.prog) elem_snds size_snds aA 8 cA m (m + 1) (by omega) (by have := rA.le; omega) W
            have rS := rA.sub (l := m) (m := m + 1) (by omega) (by omega)
            rw [cubeL_at hm] at rS
            push_cast at hsl
            rw [show m + 1 - m = 1 by omega] at rS
            have heq := lsame_any aV 1 cV [cubeS 3 m] (subA 2 aA cA m) 1 (cA - m) [cubeS 3 m] _ rV rS
            rw [decide_eq_true rfl] at heq
            have hmK : (m : Int) + 1 ≤ 8 := by omega
            go_wp2_with fail
            refine heq.mono ?_
            rintro e w5 ⟨rfl, hx5⟩
            have hxf := hxf.trans hx5
            clear hx5 heq
            go_wp2_with fail
            refine (works_any _ (hT.ext hxf) (hT2.ext hxf)).mono ?_
            rintro e wz ⟨rfl, hxz⟩
            go_wp2_with fail
            go_ret
            exact ⟨rfl, (hxf).trans hxz⟩
end Go.Proofs.YtbnbfdbliokcaaaDoor
