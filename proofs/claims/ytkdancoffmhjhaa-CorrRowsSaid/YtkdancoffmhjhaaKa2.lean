/-
  The reference's add and sum of correspondences.
-/
import Derived.Test.YtkdancoffmhjhaaKo
import Derived.Test.YtkdancoffmhjhaaOw
import Derived.Test.YtkdancoffmhjhaaOh
namespace Go.Proofs.Ytkdancoffmhjhaa
open Go.RowKit
/-- The cells and the count of a correspondence. -/
def kp (h : HCo) : List Cl × Int := (h.x, h.cnt)
/-- A list of correspondences that the call owns. -/
structure OwnL (B : Nat) (w : World) (v : Value) (hs : List HCo) : Prop where
  own : OwnK 2 HCo.enc B 49 w v hs
  ok : ∀ y ∈ hs, RdC w y.a y.n y.cap y.x
theorem OwnL.kept {B : Nat} {w w' : World} {v : Value} {hs : List HCo} (h : OwnL B w v hs) (hx : Ext w w') : OwnL B w' v hs := ⟨h.own.kept hx, fun y hy => (h.ok y hy).ext hx⟩
theorem OwnL.base {B B' : Nat} {w : World} {v : Value} {hs : List HCo} (h : OwnL B w v hs) (hB : B' ≤ B) : OwnL B' w v hs := ⟨OwnK.base h.own hB, h.ok⟩
theorem OwnL.nil (B : Nat) (w : World) : OwnL B w (.slice none 0 0) [] := ⟨OwnK.nil _ _ _, fun y hy => by cases hy⟩
theorem OwnL.rd {B : Nat} {w : World} {v : Value} {hs : List HCo} (h : OwnL B w v hs) : ∃ a n cap, n = hs.length ∧ v = .slice a n cap ∧ RdH w a n cap hs := by
  obtain ⟨a, n, cap, hn, hv, hr⟩ := OwnK.rdn HCo.len h.own
  exact ⟨a, n, cap, hn, hv, hr, h.ok⟩
section
variable {L : List (List Cl × Int)} {x y : List Cl × Int} {k : Nat}
theorem addK_skip : ∀ {L : List (List Cl × Int)} {k : Nat}, (∀ i z, i < k → L[i]? = some z → cmpCs z.1 x.1 < 0) → k ≤ L.length → addK cmpCs L x = L.take k ++ addK cmpCs (L.drop k) x
  | L, 0, _, _ => by simp
  | [], k + 1, _, h => by simp at h
  | z :: L, k + 1, h1, h2 => by
    rw [addK, if_pos (h1 0 z (by omega) rfl), addK_skip (L := L) (k := k) (fun i z hi hz => h1 (i + 1) z (by omega) (by simpa using hz)) (by simpa using h2)]
    rfl
theorem addK_end (h1 : ∀ i z, i < L.length → L[i]? = some z → cmpCs z.1 x.1 < 0) : addK cmpCs L x = L ++ [x] := by
  rw [addK_skip h1 (Nat.le_refl _), List.take_length, List.drop_length]; rfl
theorem addK_eq (h1 : ∀ i z, i < k → L[i]? = some z → cmpCs z.1 x.1 < 0) (hy : L[k]? = some y) (h2 : cmpCs y.1 x.1 = 0) : addK cmpCs L x = L.take k ++ (x.1, x.2 + y.2) :: L.drop (k + 1) := by
  rw [addK_skip h1 (Nat.le_of_lt (List.getElem?_eq_some_iff.1 hy).1), drop_cons hy, addK, if_neg (by omega), if_pos h2]
theorem addK_gt (h1 : ∀ i z, i < k → L[i]? = some z → cmpCs z.1 x.1 < 0) (hy : L[k]? = some y) (h2 : 0 ≤ cmpCs y.1 x.1) (h3 : cmpCs y.1 x.1 ≠ 0) : addK cmpCs L x = L.take k ++ x :: L.drop k := by
  rw [addK_skip h1 (Nat.le_of_lt (List.getElem?_eq_some_iff.1 hy).1), drop_cons hy, addK, if_neg (by omega), if_neg h3]
end
theorem elem_corrs : Try.prog.underlying 24 = some (.slice (Try.prog.elem 24)) := by kernel_rfl
theorem size_corrs (w : World) : (sizeOf (Try.prog.elem 24)).run Try.prog w = .ok 2 w := by kernel_rfl
theorem OwnK.rdv {α : Type} {k : Nat} {enc : α → List Value} (hk : ∀ x, (enc x).length = k) {B : Nat} {e : TypeId} {w : World} {a : Option Addr} {n cap : Nat} {xs : List α} (h : OwnK k enc B e w (.slice a n cap) xs) : RdK k enc w a n cap xs := by
  obtain ⟨a', n', cap', _, hv, hr⟩ := OwnK.rdn hk h
  cases hv; exact hr
theorem OwnK.blk' {α : Type} {k : Nat} {enc : α → List Value} {B : Nat} {e : TypeId} {w : World} {v : Value} {xs : List α} (h : OwnK k enc B e w v xs) : ∀ g, v.ownBlock = some g → ∃ cur fr, w.heap[g]? = some (.cells cur e fr) :=
  fun _ hg => let ⟨cur, hc⟩ := OwnK.blk h hg; ⟨cur, _, hc⟩
theorem map_kp_app {hs : List HCo} {y : HCo} {k j : Nat} : (hs.take k ++ [y] ++ hs.drop j).map kp = (hs.map kp).take k ++ kp y :: (hs.map kp).drop j := by
  rw [List.map_append, List.map_append, List.map_take, List.map_drop, List.append_assoc]; rfl
/-- A list of correspondences handed back. -/
def AddRet (L : List (List Cl × Int)) (w : World) (e : Ending) (w' : World) : Prop := ∃ v hs', e = .returned v ∧ OwnL w.heap.size w' v hs' ∧ hs'.map kp = L ∧ Ext w w'
set_option maxHeartbeats 8000000 in
set_option maxRecDepth 20000 in
theorem radd_any (a : Option Addr) (n cap : Nat) (hs : List HCo) (ya : Option Addr) (yn yc : Nat) (ycnt : Int) (yx : List Cl) (w : World) (hr : RdH w a n cap hs) (hy : RdC w ya yn yc yx)
    (hn : n ≤ 60000) (hyn : yn ≤ 64) (hc : ∀ h ∈ hs, 0 ≤ h.cnt ∧ h.cnt ≤ 1152921504606846976) (hyc : 0 ≤ ycnt ∧ ycnt ≤ 1152921504606846976) :
    Calls Try.prog 67 #[.slice a n cap, .agg #[.slice ya yn yc, .int .i64 ycnt]] w (AddRet (addK cmpCs (hs.map kp) (yx, ycnt)) w) := by
  have hl := hr.rd.len
  have hyl := hy.len
  obtain ⟨hyc1, hyc2⟩ := hyc
  replace hl := Lib.hid hl
  replace hyl := Lib.hid hyl
  replace hc := Lib.hid hc
  go_enter Try.func67, Try.ntmps67
  go_wp2_with fail
  have hblk := World.alloc_heap_new w (.cells #[.slice ya yn yc, .int .i64 ycnt] 49)
  have hxwB : Ext w (w.alloc (.cells #[.slice ya yn yc, .int .i64 ycnt] 49)) := Ext.alloc1 _ _
  have bx0 : (w.alloc (.cells #[.slice ya yn yc, .int .i64 ycnt] 49)).cell? ⟨w.heap.size, 0, none⟩ = some (.slice ya yn yc) := by go_simp
  have bx1 : (w.alloc (.cells #[.slice ya yn yc, .int .i64 ycnt] 49)).cell? ⟨w.heap.size, 1, none⟩ = some (.int .i64 ycnt) := by go_simp
  generalize (w.alloc (.cells #[.slice ya yn yc, .int .i64 ycnt] 49)) = wB at *
  clear hblk
  go_loopw [5, 6] (fun v i wr => ∃ k : Nat, k ≤ n ∧ i = .int .i64 k ∧ OwnL wB.heap.size wr v (hs.take k) ∧ Hid (∀ (i : Nat) (z : HCo), i < k → hs[i]? = some z → cmpCs z.x yx < 0) ∧ Ext wB wr) (fun _ i _ => n - (intOf i).toNat)
  case atStart => exact ⟨0, Nat.zero_le _, rfl, OwnL.nil _ _, Lib.hid (fun i x h => absurd h (Nat.not_lt_zero _)), Ext.refl _⟩
  case round =>
    obtain ⟨k, hk, rfl, hown9, hlo, hxz⟩ := hrel
    have hxwr := hxwB.trans hxz
    have by0 := hxz.cellv bx0
    have by1 := hxz.cellv bx1
    have hBz : w.heap.size < wr.heap.size := cell_lt by0
    have Hlen : Hid ((hs.take k).length = k) := Lib.hid (by rw [List.length_take, hl.out]; omega)
    by_cases hkn : k < n
    · have hki : (k : Int) < (n : Int) := by omega
      obtain ⟨b, off, z, rfl, hz, hb, hc0, hc1, hcz⟩ := (hr.ext hxwr).at hkn
      have r0 := fun z : ExtOf wr => z.cell hc0
      have r2 := fun z : ExtOf wr => z.cell by0
      have hcall := fun (W : ExtOf wr) => rcord_any z.a z.n z.cap z.x ya yn yc yx W.w (hcz.ext W.h) (hy.ext (hxwr.trans W.h))
      by_cases hlt : cmpCs z.x yx < 0
      · have hd : decide (cmpCs z.x yx < 0) = true := by simpa using hlt
        have hlo2 : Hid (∀ (i : Nat) (y : HCo), i < k + 1 → hs[i]? = some y → cmpCs y.x yx < 0) := Lib.hid (fun i y hi hy => by
          by_cases e : i = k
          · subst e; rw [hz.out] at hy; cases hy; exact hlt
          · exact hlo.out i y (by omega) hy)
        have hsucc := Lib.hid (take_succ_at hz.out)
        replace hlt := Lib.hid hlt
        go_wp2_with fail
        (refine wp_region_qx (by kernel_rfl) (by kernel_rfl) ?_
         repeat (go_big_quiet_step ((go_at_call 19; exact calls_ext (hcall _))))
         refine wpQuiet_nil ?_
         intro wq hw'
         have hxq := ext_of_ex hw'
         clear hw')
        have e0 := hxq.cellv hc0
        have e1 := hxq.cellv hc1
        clear r0 r2 hcall by0 by1 hc0 hc1
        go_wp2_with (at_builtin; refine wp_app1 wB wq z rfl _ _ 24 rfl 49 Try.underlying24 info_corr rfl (by decide) _ _ rfl (hown9.own.kept hxq) (hxz.trans hxq) rfl rfl (HCo.one z) (by rw [Hlen.out]; omega) (by rw [Hlen.out]; unfold maxLen; omega) ?_; intro v' w2 hown1 hx2 _)
        have hown2 : OwnL wB.heap.size w2 v' (hs.take k ++ [z]) := ⟨hown1, fun y hy => by
          rcases List.mem_append.1 hy with h | h
          · exact (hr.ok y (List.mem_of_mem_take h)).ext (hxwB.trans hx2)
          · rw [List.mem_singleton.1 h]; exact (hr.ok z (List.mem_of_getElem? hz.out)).ext (hxwB.trans hx2)⟩
        (first | exact ⟨⟨k + 1, by omega, by go_num, by rw [hsucc.out]; exact hown2, hlo2, hx2⟩, (by simp [intOf]; omega)⟩ | (go_roundw; case rel => exact ⟨k + 1, by omega, by go_num, by rw [hsucc.out]; exact hown2, hlo2, hx2⟩; case measure => exact (by simp [intOf]; omega)))
      · have hd : decide (cmpCs z.x yx < 0) = false := by simpa using hlt
        have hlt2 : 0 ≤ cmpCs z.x yx := by omega
        replace hlt := Lib.hid hlt
        replace hlt2 := Lib.hid hlt2
        go_wp2_with fail
        (refine wp_region_qx (by kernel_rfl) (by kernel_rfl) ?_
         repeat (go_big_quiet_step ((go_at_call 19; exact calls_ext (hcall _))))
         refine wpQuiet_nil ?_
         intro wq hw'
         have hxq := ext_of_ex hw'
         clear hw')
        have hown8 := hown9.kept hxq
        have hxB1 := hxz.trans hxq
        have e0 := hxq.cellv hc0
        have e1 := hxq.cellv hc1
        have f0 := hxq.cellv by0
        have f1 := hxq.cellv by1
        have hcz2 := hcz.ext hxq
        clear r0 r2 hcall by0 by1 hc0 hc1 hcz hown9 hxq hxz hxwr hBz hb
        obtain ⟨wo, rfl⟩ : ∃ wo : World, wo = wq := ⟨_, rfl⟩
        have hBq : w.heap.size < wo.heap.size := cell_lt f0
        have r0 := fun z : ExtOf wo => z.cell e0
        have r2 := fun z : ExtOf wo => z.cell f0
        have hcall := fun (W : ExtOf wo) => rcord_any z.a z.n z.cap z.x ya yn yc yx W.w (hcz2.ext W.h) (hy.ext ((hxwB.trans hxB1).trans W.h))
        have hzk := Lib.hid (show (hs.map kp)[k]? = some (kp z) by rw [List.getElem?_map, hz.out]; rfl)
        have hlok := Lib.hid (show ∀ (i : Nat) (p : List Cl × Int), i < k → (hs.map kp)[i]? = some p → cmpCs p.1 yx < 0 from fun i p hi hp => by
          rw [List.getElem?_map] at hp
          cases hh : hs[i]? with
          | none => rw [hh] at hp; cases hp
          | some h => rw [hh] at hp; cases hp; exact hlo.out i h hi hh)
        by_cases h0 : cmpCs z.x yx = 0
        · have hd2 : (cmpCs z.x yx == 0) = true := by simpa using h0
          obtain ⟨hz1, hz2⟩ := hc.out z (List.mem_of_getElem? hz.out)
          have hws : IntKind.i64.wrap (ycnt + z.cnt) = ycnt + z.cnt := IntWalk.i64_in _ (by omega)
          replace h0 := Lib.hid h0
          go_wp2_with fail
          (refine wp_region_qx (by kernel_rfl) (by kernel_rfl) ?_
           repeat (go_big_quiet_step ((go_at_call 19; exact calls_ext (hcall _))))
           refine wpQuiet_nil ?_
           intro wq hw'
           have hxq := ext_of_ex hw'
           clear hw')
          have hown9q := hown8.kept hxq
          have hxBq := hxB1.trans hxq
          have g1 := hxq.cellv e1
          have g0 := hxq.cellv f0
          have hBq2 : w.heap.size < wq.heap.size := cell_lt g0
          clear r0 r2 hcall e0 e1 f0 f1 hcz2 hBq hown8 hxB1 hxq
          have hsl := fun w => run_sub_l (P := Try.prog) elem_corrs size_corrs (some ⟨b, off, Option.none⟩) n cap (k + 1) (by omega) w
          have hrdf : ∀ W, Ext wB W → RdK 2 HCo.enc W (subA 2 (some ⟨b, off, Option.none⟩) cap (k + 1)) (n - (k + 1)) (cap - (k + 1)) (hs.drop (k + 1)) := fun W z => by
            have := (hr.rd.ext (hxwB.trans z)).sub (l := k + 1) (m := n) (by omega) (Nat.le_refl _)
            rwa [List.take_of_length_le (l := hs) (by rw [hl.out]; exact Nat.le_refl _)] at this
          skip
          have hownc : OwnC wq.heap.size 39 (wq.alloc (.cells #[] 39)) (.slice (some ⟨wq.heap.size, 0, none⟩) 0 0) [] := OwnK.base (World.ownsRow_lit wq #[] 0 (Nat.le_refl _) (Nat.zero_le _) rfl) (Nat.le_refl _)
          have hyr := hy.ext (hxwB.trans hxBq)
          have hdl : Hid ((hs.drop (k + 1)).length ≤ 60000) := Lib.hid (by rw [List.length_drop, hl.out]; omega)
          have Hlen2 : ∀ y : HCo, Hid ((hs.take k ++ [y]).length = k + 1) := fun y => Lib.hid (by rw [List.length_append, Hlen.out]; rfl)
          go_wp2_with (first | (at_builtin; refine wp_appN wq _ yx rfl _ _ 29 rfl 39 Try.underlying29 info_cl rfl (by decide) _ _ rfl hownc (Ext.alloc1 _ _) ya yn yc rfl (hyr.ext (Ext.alloc1 _ _)) Cl.len Cl.one (by simp; omega) (by unfold maxLen; simp; omega) ?_; intro v62 w62 ho62 hx62 _; rw [List.nil_append] at ho62; obtain ⟨a3, n3, c3, hn3, rfl, hr3⟩ := OwnK.rdn Cl.len ho62; replace hn3 := Lib.hid hn3) | (at_builtin; refine wp_app1 wB w62 (⟨a3, n3, c3, ycnt + z.cnt, yx⟩ : HCo) rfl _ _ 24 rfl 49 Try.underlying24 info_corr rfl (by decide) _ _ rfl (hown9q.own.kept hx62) (hxBq.trans hx62) rfl rfl (HCo.one _) (by rw [Hlen.out]; omega) (by rw [Hlen.out]; unfold maxLen; omega) ?_; intro v66 w66 ho66 hx66 hg66) | (at_builtin; refine wp_appN wB w66 (hs.drop (k + 1)) rfl _ _ 24 rfl 49 Try.underlying24 info_corr rfl (by decide) _ _ rfl ho66 hx66 _ _ _ rfl (hrdf _ hx66) HCo.len HCo.one (by rw [(Hlen2 _).out]; omega) (by rw [(Hlen2 _).out]; unfold maxLen; omega) ?_; intro v71 w71 ho71 hx71 hg71))
          all_goals
            have hc66 : OwnC wq.heap.size 39 w66 (.slice a3 n3 c3) yx := (ho62.kept (Ext.alloc1 _ _)).other hg66 (OwnK.blk' ((hown9q.own.kept hx62).kept (Ext.alloc1 _ _))) (by decide)
            have hc71 : OwnC wq.heap.size 39 w71 (.slice a3 n3 c3) yx := hc66.other hg71 (OwnK.blk' ho66) (by decide)
            have hfin : addK cmpCs (hs.map kp) (yx, ycnt) = (hs.map kp).take k ++ kp ⟨a3, n3, c3, ycnt + z.cnt, yx⟩ :: (hs.map kp).drop (k + 1) := addK_eq (x := (yx, ycnt)) hlok.out hzk.out h0.out
            go_ret
            exact ⟨_, hs.take k ++ [⟨a3, n3, c3, ycnt + z.cnt, yx⟩] ++ hs.drop (k + 1), rfl, ⟨OwnK.base ho71 (Ext.le hxwB), fun y hy => by
              rcases List.mem_append.1 hy with h | h
              · rcases List.mem_append.1 h with h | h
                · exact (hr.ok y (List.mem_of_mem_take h)).ext (hxwB.trans hx71)
                · rw [List.mem_singleton.1 h]; exact OwnK.rdv Cl.len hc71
              · exact (hr.ok y (List.mem_of_mem_drop h)).ext (hxwB.trans hx71)⟩, by rw [map_kp_app]; exact hfin.symm, hxwB.trans hx71⟩
        · have hd2 : (cmpCs z.x yx == 0) = false := by simpa using h0
          replace h0 := Lib.hid h0
          go_wp2_with fail
          (refine wp_region_qx (by kernel_rfl) (by kernel_rfl) ?_
           repeat (go_big_quiet_step ((go_at_call 19; exact calls_ext (hcall _))))
           refine wpQuiet_nil ?_
           intro wq hw'
           have hxq := ext_of_ex hw'
           clear hw')
          have hown9q := hown8.kept hxq
          have hxBq := hxB1.trans hxq
          have g0 := hxq.cellv f0
          have hBq2 : w.heap.size < wq.heap.size := cell_lt g0
          clear r0 r2 hcall e0 e1 f0 f1 hcz2 hBq hown8 hxB1 hxq
          have hsl := fun w => run_sub_l (P := Try.prog) elem_corrs size_corrs (some ⟨b, off, Option.none⟩) n cap (k) (by omega) w
          have hrdf : ∀ W, Ext wB W → RdK 2 HCo.enc W (subA 2 (some ⟨b, off, Option.none⟩) cap (k)) (n - (k)) (cap - (k)) (hs.drop (k)) := fun W z => by
            have := (hr.rd.ext (hxwB.trans z)).sub (l := k) (m := n) (by omega) (Nat.le_refl _)
            rwa [List.take_of_length_le (l := hs) (by rw [hl.out]; exact Nat.le_refl _)] at this
          skip
          have hownc : OwnC wq.heap.size 39 (wq.alloc (.cells #[] 39)) (.slice (some ⟨wq.heap.size, 0, none⟩) 0 0) [] := OwnK.base (World.ownsRow_lit wq #[] 0 (Nat.le_refl _) (Nat.zero_le _) rfl) (Nat.le_refl _)
          have hyr := hy.ext (hxwB.trans hxBq)
          have hdl : Hid ((hs.drop (k)).length ≤ 60000) := Lib.hid (by rw [List.length_drop, hl.out]; omega)
          have Hlen2 : ∀ y : HCo, Hid ((hs.take k ++ [y]).length = k + 1) := fun y => Lib.hid (by rw [List.length_append, Hlen.out]; rfl)
          go_wp2_with (first | (at_builtin; refine wp_appN wq _ yx rfl _ _ 29 rfl 39 Try.underlying29 info_cl rfl (by decide) _ _ rfl hownc (Ext.alloc1 _ _) ya yn yc rfl (hyr.ext (Ext.alloc1 _ _)) Cl.len Cl.one (by simp; omega) (by unfold maxLen; simp; omega) ?_; intro v62 w62 ho62 hx62 _; rw [List.nil_append] at ho62; obtain ⟨a3, n3, c3, hn3, rfl, hr3⟩ := OwnK.rdn Cl.len ho62; replace hn3 := Lib.hid hn3) | (at_builtin; refine wp_app1 wB w62 (⟨a3, n3, c3, ycnt, yx⟩ : HCo) rfl _ _ 24 rfl 49 Try.underlying24 info_corr rfl (by decide) _ _ rfl (hown9q.own.kept hx62) (hxBq.trans hx62) rfl rfl (HCo.one _) (by rw [Hlen.out]; omega) (by rw [Hlen.out]; unfold maxLen; omega) ?_; intro v66 w66 ho66 hx66 hg66) | (at_builtin; refine wp_appN wB w66 (hs.drop (k)) rfl _ _ 24 rfl 49 Try.underlying24 info_corr rfl (by decide) _ _ rfl ho66 hx66 _ _ _ rfl (hrdf _ hx66) HCo.len HCo.one (by rw [(Hlen2 _).out]; omega) (by rw [(Hlen2 _).out]; unfold maxLen; omega) ?_; intro v71 w71 ho71 hx71 hg71))
          all_goals
            have hc66 : OwnC wq.heap.size 39 w66 (.slice a3 n3 c3) yx := (ho62.kept (Ext.alloc1 _ _)).other hg66 (OwnK.blk' ((hown9q.own.kept hx62).kept (Ext.alloc1 _ _))) (by decide)
            have hc71 : OwnC wq.heap.size 39 w71 (.slice a3 n3 c3) yx := hc66.other hg71 (OwnK.blk' ho66) (by decide)
            have hfin : addK cmpCs (hs.map kp) (yx, ycnt) = (hs.map kp).take k ++ kp ⟨a3, n3, c3, ycnt, yx⟩ :: (hs.map kp).drop (k) := addK_gt (x := (yx, ycnt)) hlok.out hzk.out hlt2.out h0.out
            go_ret
            exact ⟨_, hs.take k ++ [⟨a3, n3, c3, ycnt, yx⟩] ++ hs.drop (k), rfl, ⟨OwnK.base ho71 (Ext.le hxwB), fun y hy => by
              rcases List.mem_append.1 hy with h | h
              · rcases List.mem_append.1 h with h | h
                · exact (hr.ok y (List.mem_of_mem_take h)).ext (hxwB.trans hx71)
                · rw [List.mem_singleton.1 h]; exact OwnK.rdv Cl.len hc71
              · exact (hr.ok y (List.mem_of_mem_drop h)).ext (hxwB.trans hx71)⟩, by rw [map_kp_app]; exact hfin.symm, hxwB.trans hx71⟩
    · have hkn2 : k = n := by omega
      have hlok := Lib.hid (show ∀ (i : Nat) (p : List Cl × Int), i < k → (hs.map kp)[i]? = some p → cmpCs p.1 yx < 0 from fun i p hi hp => by
        rw [List.getElem?_map] at hp
        cases hh : hs[i]? with
        | none => rw [hh] at hp; cases hp
        | some h => rw [hh] at hp; cases hp; exact hlo.out i h hi hh)
      have hd3 : decide (k < n) = false := by simpa using hkn
      replace hkn2 := Lib.hid hkn2
      go_wp2_with fail
      (refine wp_region_qx (by kernel_rfl) (by kernel_rfl) ?_
       repeat (go_big_quiet_step (fail))
       refine wpQuiet_nil ?_
       intro wq hw'
       have hxq := ext_of_ex hw'
       clear hw')
      have hown8 := hown9.kept hxq
      have hxB1 := hxz.trans hxq
      have f0 := hxq.cellv by0
      have f1 := hxq.cellv by1
      clear by0 by1 hown9 hxz hxwr hBz hxq
      obtain ⟨wo, rfl⟩ : ∃ wo : World, wo = wq := ⟨_, rfl⟩
      have hBq : w.heap.size < wo.heap.size := cell_lt f0
      go_wp2_with fail
      (refine wp_region_qx (by kernel_rfl) (by kernel_rfl) ?_
       repeat (go_big_quiet_step (fail))
       refine wpQuiet_nil ?_
       intro wq hw'
       have hxq := ext_of_ex hw'
       clear hw')
      have hown9q := hown8.kept hxq
      have hxBq := hxB1.trans hxq
      have g0 := hxq.cellv f0
      have hBq2 : w.heap.size < wq.heap.size := cell_lt g0
      have hsl := fun w => run_sub_l (P := Try.prog) elem_corrs size_corrs (a) n cap (k) (by omega) w
      have hrdf : ∀ W, Ext wB W → RdK 2 HCo.enc W (subA 2 (a) cap (k)) (n - (k)) (cap - (k)) (hs.drop (k)) := fun W z => by
        have := (hr.rd.ext (hxwB.trans z)).sub (l := k) (m := n) (by omega) (Nat.le_refl _)
        rwa [List.take_of_length_le (l := hs) (by rw [hl.out]; exact Nat.le_refl _)] at this
      skip
      have hownc : OwnC wq.heap.size 39 (wq.alloc (.cells #[] 39)) (.slice (some ⟨wq.heap.size, 0, none⟩) 0 0) [] := OwnK.base (World.ownsRow_lit wq #[] 0 (Nat.le_refl _) (Nat.zero_le _) rfl) (Nat.le_refl _)
      have hyr := hy.ext (hxwB.trans hxBq)
      have hdl : Hid ((hs.drop (k)).length ≤ 60000) := Lib.hid (by rw [List.length_drop, hl.out]; omega)
      have Hlen2 : ∀ y : HCo, Hid ((hs.take k ++ [y]).length = k + 1) := fun y => Lib.hid (by rw [List.length_append, Hlen.out]; rfl)
      go_wp2_with (first | (at_builtin; refine wp_appN wq _ yx rfl _ _ 29 rfl 39 Try.underlying29 info_cl rfl (by decide) _ _ rfl hownc (Ext.alloc1 _ _) ya yn yc rfl (hyr.ext (Ext.alloc1 _ _)) Cl.len Cl.one (by simp; omega) (by unfold maxLen; simp; omega) ?_; intro v62 w62 ho62 hx62 _; rw [List.nil_append] at ho62; obtain ⟨a3, n3, c3, hn3, rfl, hr3⟩ := OwnK.rdn Cl.len ho62; replace hn3 := Lib.hid hn3) | (at_builtin; refine wp_app1 wB w62 (⟨a3, n3, c3, ycnt, yx⟩ : HCo) rfl _ _ 24 rfl 49 Try.underlying24 info_corr rfl (by decide) _ _ rfl (hown9q.own.kept hx62) (hxBq.trans hx62) rfl rfl (HCo.one _) (by rw [Hlen.out]; omega) (by rw [Hlen.out]; unfold maxLen; omega) ?_; intro v66 w66 ho66 hx66 hg66) | (at_builtin; refine wp_appN wB w66 (hs.drop (k)) rfl _ _ 24 rfl 49 Try.underlying24 info_corr rfl (by decide) _ _ rfl ho66 hx66 _ _ _ rfl (hrdf _ hx66) HCo.len HCo.one (by rw [(Hlen2 _).out]; omega) (by rw [(Hlen2 _).out]; unfold maxLen; omega) ?_; intro v71 w71 ho71 hx71 hg71))
      all_goals
        have hc66 : OwnC wq.heap.size 39 w66 (.slice a3 n3 c3) yx := (ho62.kept (Ext.alloc1 _ _)).other hg66 (OwnK.blk' ((hown9q.own.kept hx62).kept (Ext.alloc1 _ _))) (by decide)
        have hc71 : OwnC wq.heap.size 39 w71 (.slice a3 n3 c3) yx := hc66.other hg71 (OwnK.blk' ho66) (by decide)
        have hfin : addK cmpCs (hs.map kp) (yx, ycnt) = (hs.map kp).take k ++ kp ⟨a3, n3, c3, ycnt, yx⟩ :: (hs.map kp).drop (k) := (addK_end (L := hs.map kp) (x := (yx, ycnt)) (by rw [List.length_map, hl.out, ← hkn2.out]; exact hlok.out)).trans (by rw [List.take_of_length_le (by rw [List.length_map, hl.out, hkn2.out]; exact Nat.le_refl _), List.drop_of_length_le (by rw [List.length_map, hl.out, hkn2.out]; exact Nat.le_refl _)]; rfl)
        go_ret
        exact ⟨_, hs.take k ++ [⟨a3, n3, c3, ycnt, yx⟩] ++ hs.drop (k), rfl, ⟨OwnK.base ho71 (Ext.le hxwB), fun y hy => by
          rcases List.mem_append.1 hy with h | h
          · rcases List.mem_append.1 h with h | h
            · exact (hr.ok y (List.mem_of_mem_take h)).ext (hxwB.trans hx71)
            · rw [List.mem_singleton.1 h]; exact OwnK.rdv Cl.len hc71
          · exact (hr.ok y (List.mem_of_mem_drop h)).ext (hxwB.trans hx71)⟩, by rw [map_kp_app]; exact hfin.symm, hxwB.trans hx71⟩
/-! ### sum -/
theorem cntK_bd {M : Int} (hM : 0 ≤ M) : ∀ {l : List (List Cl × Int)}, (∀ x ∈ l, 0 ≤ x.2 ∧ x.2 ≤ M) → ∀ c, 0 ≤ cntK l c ∧ cntK l c ≤ M * l.length
  | [], _, c => by simp [cntK]
  | x :: l, h, c => by
    have ih := cntK_bd hM (l := l) (fun y hy => h y (List.mem_cons_of_mem _ hy)) c
    have hx := h x (List.mem_cons_self ..)
    have e : cntK (x :: l) c = (if x.1 = c then x.2 else 0) + cntK l c := by
      unfold cntK
      by_cases hc : x.1 = c
      · rw [if_pos hc, List.filter_cons, if_pos (by simpa using hc)]; rfl
      · rw [if_neg hc, List.filter_cons, if_neg (by simpa using hc)]; simp
    rw [e, List.length_cons]
    have : M * ((l.length + 1 : Nat) : Int) = M * l.length + M := by rw [Int.natCast_add, Int.mul_add]; simp
    split <;> omega
theorem SumK.bd {l L : List (List Cl × Int)} (h : SumK cmpCs l L) {M : Int} (hM : 0 ≤ M) (hl : ∀ x ∈ l, 0 ≤ x.2 ∧ x.2 ≤ M) : ∀ x ∈ L, 0 ≤ x.2 ∧ x.2 ≤ M * l.length := fun x hx => by
  have := (h.2.1 x hx).1
  rw [this]; exact cntK_bd hM hl x.1
theorem addK_len : ∀ (L : List (List Cl × Int)) (x : List Cl × Int), (addK cmpCs L x).length ≤ L.length + 1
  | [], x => by simp [addK]
  | y :: L, x => by
    have := addK_len L x
    rw [addK]
    split
    · simp; omega
    · split
      · simp
      · simp
def sumE (L : List (List Cl × Int)) : Int := if L.any (fun x => decide (2147483647 < x.2)) = true then 7 else 0
/-- A sum of correspondences handed back. -/
def SumRet (l : List (List Cl × Int)) (w : World) (e : Ending) (w' : World) : Prop :=
  ∃ L, SumK cmpCs l L ∧ ∃ v hs, e = .returned (.tuple #[v, .int .i64 (sumE L)]) ∧ OwnL w.heap.size w' v hs ∧ hs.map kp = (if sumE L = 0 then L else []) ∧ Ext w w'
theorem sumE_over {hs : List HCo} {i : Nat} {z : HCo} (h : hs[i]? = some z) (hz : 2147483647 < z.cnt) : sumE (hs.map kp) = 7 := by
  unfold sumE
  rw [if_pos]
  exact List.any_eq_true.2 ⟨kp z, List.mem_map.2 ⟨z, List.mem_of_getElem? h, rfl⟩, by show decide (2147483647 < z.cnt) = true; simpa using hz⟩
theorem sumE_ok {hs : List HCo} {n : Nat} (hl : hs.length = n) (h : ∀ (i : Nat) (z : HCo), i < n → hs[i]? = some z → decide (z.cnt ≤ 2147483647) = true) : sumE (hs.map kp) = 0 := by
  unfold sumE
  rw [if_neg]
  rw [Bool.not_eq_true, List.any_eq_false]
  intro x hx
  obtain ⟨z, hz, rfl⟩ := List.mem_map.1 hx
  obtain ⟨i, hi⟩ := List.getElem?_of_mem hz
  have := h i z (by rw [← hl]; exact (List.getElem?_eq_some_iff.1 hi).1) hi
  show ¬ decide (2147483647 < z.cnt) = true
  simp at this ⊢
  omega
set_option maxHeartbeats 4000000 in
set_option maxRecDepth 20000 in
theorem rsum_any (a : Option Addr) (m cap : Nat) (l : List HCo) (w : World) (hr : RdH w a m cap l) (hm : m ≤ 20000) (hw : ∀ y ∈ l, y.n ≤ 64) (hc : ∀ y ∈ l, 0 ≤ y.cnt ∧ y.cnt ≤ 2147483647) :
    Calls Try.prog 42 #[.slice a m cap] w (SumRet (l.map kp) w) := by
  have hl := hr.rd.len
  replace hl := Lib.hid hl
  replace hw := Lib.hid hw
  replace hc := Lib.hid hc
  go_enter Try.func42, Try.ntmps42
  go_wp2_with fail
  go_loopw [4, 5] (fun v i wr => ∃ (j : Nat) (hs : List HCo), j ≤ m ∧ i = .int .i64 j ∧ OwnL w.heap.size wr v hs ∧ Hid (SumK cmpCs ((l.take j).map kp) (hs.map kp)) ∧ hs.length ≤ j ∧ Ext w wr) (fun _ i _ => m - (intOf i).toNat)
  case atStart => exact ⟨0, [], Nat.zero_le _, rfl, OwnL.nil _ _, Lib.hid SumK.nil, Nat.le_refl _, Ext.refl _⟩
  case round =>
    obtain ⟨j, hs, hj, rfl, hown, hsum, hlen, hx⟩ := hrel
    obtain ⟨av, nv, cv, env, rfl, hrv⟩ := hown.rd
    by_cases hlt : j < m
    · have hjm : (j : Int) < (m : Int) := by omega
      obtain ⟨b, off, ⟨ya, yn, yc, ycnt, yx⟩, rfl, hy, hb, hc0, hc1, hcy⟩ := (hr.ext hx).at hlt
      simp only at hc0 hc1 hcy
      have hyn := hw.out _ (List.mem_of_getElem? hy.out)
      have hyc := hc.out _ (List.mem_of_getElem? hy.out)
      simp only at hyn hyc
      have hsuc := Lib.hid (take_succ_at hy.out)
      have hcall := radd_any av nv cv hs ya yn yc ycnt yx wr hrv hcy (by omega) hyn (fun h hh => by
        have := SumK.bd hsum.out (M := 2147483647) (by omega) (fun x hx => by
          obtain ⟨z, hz, rfl⟩ := List.mem_map.1 hx
          exact hc.out z (List.mem_of_mem_take hz)) (kp h) (List.mem_map.2 ⟨h, hh, rfl⟩)
        rw [List.length_map, List.length_take] at this
        have e : (kp h).2 = h.cnt := rfl
        rw [e] at this
        have h2 : ((min j l.length : Nat) : Int) ≤ 20000 := by omega
        have h3 : (2147483647 : Int) * ((min j l.length : Nat) : Int) ≤ 2147483647 * 20000 := Int.mul_le_mul_of_nonneg_left h2 (by omega)
        omega) ⟨hyc.1, by omega⟩
      replace env := Lib.hid env
      go_wp2_with fail
      refine hcall.mono ?_
      rintro e w1 ⟨v1, hs1, rfl, hown1, hk1, hx1⟩
      have hsum1 : Hid (SumK cmpCs ((l.take (j + 1)).map kp) (hs1.map kp)) := Lib.hid (by
        rw [hk1, hsuc.out, List.map_append]
        exact hsum.out.add cmpCs_tot (yx, ycnt))
      have hlen1 : hs1.length ≤ j + 1 := by
        have := congrArg List.length hk1
        have h2 := addK_len (hs.map kp) (yx, ycnt)
        rw [List.length_map] at this h2
        omega
      have hb1 := OwnL.base hown1 (Ext.le hx)
      replace hk1 := Lib.hid hk1
      clear hcall hown hrv hown1 hcy hc0 hc1
      go_wp2_with fail
      (first | exact ⟨⟨j + 1, hs1, by omega, by go_num, hb1, hsum1, hlen1, hx.trans hx1⟩, (by simp [intOf]; omega)⟩ | (go_roundw; case rel => exact ⟨j + 1, hs1, by omega, by go_num, hb1, hsum1, hlen1, hx.trans hx1⟩; case measure => exact (by simp [intOf]; omega)))
    · have hfull : Hid (SumK cmpCs (l.map kp) (hs.map kp)) := Lib.hid (by
        have := hsum.out
        rwa [List.take_of_length_le (by rw [hl.out]; omega)] at this)
      have hnv := len_int' hrv.rd
      replace env := Lib.hid env
      go_wp2_with fail
      obtain ⟨wo, rfl⟩ : ∃ wo : World, wo = wr := ⟨_, rfl⟩
      go_loopw [6] (fun i wr => ∃ q : Nat, q ≤ nv ∧ i = .int .i64 q ∧ Hid (∀ (i : Nat) (z : HCo), i < q → hs[i]? = some z → decide (z.cnt ≤ 2147483647) = true) ∧ Ext wo wr) (fun i _ => nv - (intOf i).toNat)
      case atStart => exact ⟨0, Nat.zero_le _, rfl, Lib.hid (fun i z h => absurd h (Nat.not_lt_zero _)), Ext.refl _⟩
      case round =>
        obtain ⟨q, hq, rfl, hall, hxi⟩ := hrel
        by_cases hqn : q < nv
        · have hqi : (q : Int) < (nv : Int) := by omega
          obtain ⟨b, off, z, rfl, hz, hb, hc0, hc1, hcz⟩ := (hrv.ext hxi).at hqn
          by_cases hbig : 2147483647 < z.cnt
          · have hd : decide (2147483647 < z.cnt) = true := by simpa using hbig
            have hE := Lib.hid (sumE_over hz.out hbig)
            replace hbig := Lib.hid hbig
            go_wp2_with fail
            go_ret2
            exact ⟨hs.map kp, hfull.out, _, [], by rw [hE.out]; rfl, OwnL.nil _ _, by rw [hE.out]; rfl, hx.trans hxi⟩
          · have hd : decide (2147483647 < z.cnt) = false := by simpa using hbig
            have hall2 := Lib.hid (all_succ (p := fun z : HCo => decide (z.cnt ≤ 2147483647)) hall.out hz.out (by simp; omega))
            replace hbig := Lib.hid hbig
            go_wp2_with fail
            (first | exact ⟨⟨q + 1, by omega, by go_num, hall2, hxi⟩, (by simp [intOf]; omega)⟩ | (go_roundw; case rel => exact ⟨q + 1, by omega, by go_num, hall2, hxi⟩; case measure => exact (by simp [intOf]; omega)))
        · have hE := Lib.hid (sumE_ok env.out.symm (fun i z hi => hall.out i z (by omega)))
          go_wp2_with fail
          go_ret2
          exact ⟨hs.map kp, hfull.out, _, hs, by rw [hE.out]; rfl, hown.kept hxi, by rw [hE.out]; rfl, hx.trans hxi⟩
end Go.Proofs.Ytkdancoffmhjhaa
